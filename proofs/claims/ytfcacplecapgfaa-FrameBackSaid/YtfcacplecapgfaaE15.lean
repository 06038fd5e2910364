/- Contracts: amphoraref05.Reader as a state: Take; the plain law that the document's reading of a command is readC. -/
import Derived.Test.YtfcacplecapgfaaE14
import Derived.Test.YtfcacplecapgfaaE11
namespace Go.Proofs.Ytfcacplecapgfaa
open Go.RowKit
set_option linter.unusedVariables false
set_option linter.unusedSimpArgs false

/-- A part is read: its value and the state behind it. -/
def StepG {α : Type} (f : List B8 → Option (α × List B8)) (st : Option (List B8)) (m : α) (st' : Option (List B8)) : Prop :=
  (∀ n r, st.bind f = some (n, r) → m = n ∧ st' = some r) ∧ (st.bind f = none → st' = none)
theorem StepG.split {α : Type} {f : List B8 → Option (α × List B8)} {st : Option (List B8)} {m : α} {st' : Option (List B8)} (h : StepG f st m st') :
    (st.bind f = none ∧ st' = none) ∨ ∃ l r, st = some l ∧ f l = some (m, r) ∧ st' = some r := by
  cases hx : st.bind f with
  | none => exact .inl ⟨rfl, h.2 hx⟩
  | some p =>
    obtain ⟨n, r⟩ := p
    obtain ⟨rfl, h2⟩ := h.1 n r hx
    cases st with
    | none => cases hx
    | some l => exact .inr ⟨l, r, rfl, hx, h2⟩
theorem StepG.good {α : Type} {f : List B8 → Option (α × List B8)} {l r : List B8} {m : α} (h : f l = some (m, r)) : StepG f (some l) m (some r) := by
  refine ⟨fun n r' hh => ?_, fun hh => ?_⟩
  · rw [Option.bind_some, h] at hh
    injection hh with hh
    injection hh with h1 h2
    exact ⟨h1, by rw [h2]⟩
  · rw [Option.bind_some, h] at hh; cases hh
theorem StepG.bad {α : Type} {f : List B8 → Option (α × List B8)} {st : Option (List B8)} {m : α} (h : st.bind f = none) : StepG f st m none :=
  ⟨fun n r hh => (by rw [h] at hh; cases hh), fun _ => rfl⟩
theorem StepG.snoc {most k : Nat} {st st1 st2 : Option (List B8)} {ms : List Nat} {x : Nat} (h : StepG (numsR most k) st ms st1) (g : StepG (numR most) st1 x st2) :
    StepG (numsR most (k + 1)) st (ms ++ [x]) st2 := by
  rcases h.split with ⟨h1, h2⟩ | ⟨l, r, rfl, h1, rfl⟩
  · rcases g.split with ⟨_, g2⟩ | ⟨l', r', g1, _, _⟩
    · rw [g2]
      refine StepG.bad ?_
      cases st with
      | none => rfl
      | some l => rw [Option.bind_some] at h1 ⊢; rw [numsR, h1]; rfl
    · rw [h2] at g1; cases g1
  · rcases g.split with ⟨g1, g2⟩ | ⟨l', r', g1, g2, rfl⟩
    · rw [g2]
      refine StepG.bad ?_
      rw [Option.bind_some] at g1 ⊢
      rw [numsR, h1, Option.bind_some, g1]; rfl
    · injection g1 with g1
      subst g1
      refine StepG.good ?_
      rw [numsR, h1, Option.bind_some, g2]; rfl
theorem StepG.nil {most : Nat} {st : Option (List B8)} : StepG (numsR most 0) st [] st := by
  cases st with
  | none => exact StepG.bad rfl
  | some l => exact StepG.good rfl
theorem numsR_len {most : Nat} : ∀ {k : Nat} {l r : List B8} {ms : List Nat}, numsR most k l = some (ms, r) → ms.length = k
  | 0, l, r, ms, h => by rw [numsR] at h; injection h with h; injection h with h1 h2; subst h1; rfl
  | k + 1, l, r, ms, h => by
    rw [numsR] at h
    cases hx : numsR most k l with
    | none => rw [hx] at h; cases h
    | some p =>
      rw [hx, Option.bind_some] at h
      cases hy : numR most p.2 with
      | none => rw [hy] at h; cases h
      | some q =>
        rw [hy, Option.map_some] at h
        injection h with h
        injection h with h1 h2
        rw [← h1, List.length_append, numsR_len (l := l) (r := p.2) (ms := p.1) hx]; rfl
theorem numsR_most {most : Nat} (hm : most ≤ 1152921504606846976) (l : List B8) : ∀ k, numsR most k l = (numsR 1152921504606846976 k l).bind fun p => if ∃ x, x ∈ p.1 ∧ most < x then none else some p
  | 0 => by rw [numsR, numsR, Option.bind_some, if_neg (by rintro ⟨x, hx, _⟩; cases hx)]
  | k + 1 => by
    rw [numsR, numsR, numsR_most hm l k]
    cases hx : numsR 1152921504606846976 k l with
    | none => rfl
    | some p =>
      rw [Option.bind_some, Option.bind_some]
      cases hy : numR 1152921504606846976 p.2 with
      | none =>
        by_cases hp : ∃ x, x ∈ p.1 ∧ most < x
        · rw [if_pos hp]; rfl
        · rw [if_neg hp, Option.bind_some, numR_most hm, hy]; rfl
      | some q =>
        rw [Option.map_some, Option.bind_some]
        by_cases hp : ∃ x, x ∈ p.1 ∧ most < x
        · rw [if_pos hp, if_pos (by obtain ⟨x, h1, h2⟩ := hp; exact ⟨x, by simp [h1], h2⟩)]; rfl
        · rw [if_neg hp, Option.bind_some, numR_most hm, hy, Option.bind_some]
          by_cases hq : most < q.1
          · rw [if_pos hq, if_pos ⟨q.1, by simp, hq⟩]; rfl
          · rw [if_neg hq, if_neg]
            · rfl
            · rintro ⟨x, h1, h2⟩
              simp only [List.mem_append, List.mem_singleton] at h1
              rcases h1 with h1 | h1
              · exact hp ⟨x, h1, h2⟩
              · subst h1; exact hq h2

/-- So many bytes. -/
def takeR (n : Nat) (l : List B8) : Option (List B8 × List B8) := if l.length < n then none else some (l.take n, l.drop n)

/-- The document's parts of a command, one by one, and its test, are readC. -/
theorem read_steps {st s1 s2 s3 s4 s5 s6 s7 st' : Option (List B8)} {a c f : List Nat} {b d e : Nat} {t : List B8}
    (h1 : StepG (numsR 1152921504606846976 7) st a s1) (h2 : StepG (numR 1152921504606846976) s1 b s2) (h3 : StepG (numsR 1152921504606846976 2) s2 c s3)
    (h4 : StepG (numR 8) s3 d s4) (h5 : StepG (takeR d) s4 t s5) (h6 : StepG (numR 255) s5 e s6) (h7 : StepG (numsR 1152921504606846976 e) s6 f s7)
    (hbad : 4294967296 ≤ b ∨ mayC (mkC a (b % 4294967296) c (str t)) (natsV f) = false → st' = none)
    (hgood : b < 4294967296 → mayC (mkC a (b % 4294967296) c (str t)) (natsV f) = true → st' = s7) (hlen : c.length = 2) :
    StepG readC st (mkC a (b % 4294967296) c (str t), natsV f) st' := by
  have hnone : s7 = none → st' = none := by
    intro h
    by_cases hb : 4294967296 ≤ b
    · exact hbad (.inl hb)
    · cases hm : mayC (mkC a (b % 4294967296) c (str t)) (natsV f) with
      | false => exact hbad (.inr hm)
      | true => rw [hgood (by omega) hm, h]
  have fin : ∀ {l : List B8}, st = some l → readC l = none → st' = none → StepG readC st (mkC a (b % 4294967296) c (str t), natsV f) st' := by
    intro l hs hr hn
    subst hs
    rw [hn]
    exact StepG.bad hr
  have rest : s1 = none → s7 = none := by
    intro hs
    have hs2 : s2 = none := by rcases h2.split with ⟨_, h⟩ | ⟨_, _, h, _⟩; exact h; rw [hs] at h; cases h
    have hs3 : s3 = none := by rcases h3.split with ⟨_, h⟩ | ⟨_, _, h, _⟩; exact h; rw [hs2] at h; cases h
    have hs4 : s4 = none := by rcases h4.split with ⟨_, h⟩ | ⟨_, _, h, _⟩; exact h; rw [hs3] at h; cases h
    have hs5 : s5 = none := by rcases h5.split with ⟨_, h⟩ | ⟨_, _, h, _⟩; exact h; rw [hs4] at h; cases h
    have hs6 : s6 = none := by rcases h6.split with ⟨_, h⟩ | ⟨_, _, h, _⟩; exact h; rw [hs5] at h; cases h
    rcases h7.split with ⟨_, h⟩ | ⟨_, _, h, _⟩; exact h; rw [hs6] at h; cases h
  rcases h1.split with ⟨g1, k1⟩ | ⟨l, r1, rfl, g1, k1⟩
  · cases st with
    | none => rw [hnone (rest k1)]; exact StepG.bad rfl
    | some l =>
      refine fin rfl ?_ (hnone (rest k1))
      rw [Option.bind_some] at g1
      unfold readC; rw [g1]; rfl
  subst k1
  rcases h2.split with ⟨g2, k2⟩ | ⟨l', r2, hl, g2, k2⟩
  · refine fin rfl ?_ (hnone ?_)
    · rw [Option.bind_some] at g2
      unfold readC; rw [g1, Option.bind_some, numR_most (by decide), g2]; rfl
    · subst k2
      rcases h3.split with ⟨_, k3⟩ | ⟨_, _, h, _⟩
      · subst k3
        rcases h4.split with ⟨_, k4⟩ | ⟨_, _, h, _⟩
        · subst k4
          rcases h5.split with ⟨_, k5⟩ | ⟨_, _, h, _⟩
          · subst k5
            rcases h6.split with ⟨_, k6⟩ | ⟨_, _, h, _⟩
            · subst k6
              rcases h7.split with ⟨_, k7⟩ | ⟨_, _, h, _⟩
              · exact k7
              · cases h
            · cases h
          · cases h
        · cases h
      · cases h
  injection hl with hl
  subst hl
  subst k2
  by_cases hb : 4294967296 ≤ b
  · refine fin rfl ?_ (hbad (.inl hb))
    unfold readC; rw [g1, Option.bind_some, numR_most (by decide), g2, Option.bind_some, if_pos (by show 4294967295 < b; omega)]; rfl
  have e2 : numR 4294967295 r1 = some (b, r2) := by rw [numR_most (by decide), g2, Option.bind_some, if_neg (by show ¬ 4294967295 < b; omega)]
  have hbm : b % 4294967296 = b := Nat.mod_eq_of_lt (by omega)
  rw [hbm] at hbad hgood ⊢ fin
  rcases h3.split with ⟨g3, k3⟩ | ⟨l', r3, hl, g3, k3⟩
  · refine fin rfl ?_ (hnone ?_)
    · rw [Option.bind_some] at g3
      unfold readC; rw [g1, Option.bind_some, e2, Option.bind_some, numsR_most (by decide), g3]; rfl
    · subst k3
      rcases h4.split with ⟨_, k4⟩ | ⟨_, _, h, _⟩
      · subst k4
        rcases h5.split with ⟨_, k5⟩ | ⟨_, _, h, _⟩
        · subst k5
          rcases h6.split with ⟨_, k6⟩ | ⟨_, _, h, _⟩
          · subst k6
            rcases h7.split with ⟨_, k7⟩ | ⟨_, _, h, _⟩
            · exact k7
            · cases h
          · cases h
        · cases h
      · cases h
  injection hl with hl
  subst hl
  subst k3
  by_cases hc : ∃ x, x ∈ c ∧ 255 < x
  · refine fin rfl ?_ (hbad (.inr ?_))
    · unfold readC; rw [g1, Option.bind_some, e2, Option.bind_some, numsR_most (by decide), g3, Option.bind_some, if_pos hc]; rfl
    · obtain ⟨c0, c1, rfl⟩ := len2 hlen
      cases hm : mayC (mkC a b [c0, c1] (str t)) (natsV f) with
      | false => rfl
      | true =>
        have ho := mayC_ok.1 hm
        have hk := ho.k
        have hmm := ho.m
        simp only [mkC, List.getD_cons_zero, List.getD_cons_succ] at hk hmm
        obtain ⟨x, hx, hx2⟩ := hc
        simp at hx
        omega
  have e3 : numsR 255 2 r2 = some (c, r3) := by rw [numsR_most (by decide), g3, Option.bind_some, if_neg hc]
  rcases h4.split with ⟨g4, k4⟩ | ⟨l', r4, hl, g4, k4⟩
  · refine fin rfl ?_ (hnone ?_)
    · rw [Option.bind_some] at g4
      unfold readC; rw [g1, Option.bind_some, e2, Option.bind_some, e3, Option.bind_some, g4]; rfl
    · subst k4
      rcases h5.split with ⟨_, k5⟩ | ⟨_, _, h, _⟩
      · subst k5
        rcases h6.split with ⟨_, k6⟩ | ⟨_, _, h, _⟩
        · subst k6
          rcases h7.split with ⟨_, k7⟩ | ⟨_, _, h, _⟩
          · exact k7
          · cases h
        · cases h
      · cases h
  injection hl with hl
  subst hl
  subst k4
  rcases h5.split with ⟨g5, k5⟩ | ⟨l', r5, hl, g5, k5⟩
  · refine fin rfl ?_ (hnone ?_)
    · rw [Option.bind_some] at g5
      unfold takeR at g5
      split at g5
      · rename_i hlt
        unfold readC; rw [g1, Option.bind_some, e2, Option.bind_some, e3, Option.bind_some, g4, Option.bind_some, if_pos hlt]
      · cases g5
    · subst k5
      rcases h6.split with ⟨_, k6⟩ | ⟨_, _, h, _⟩
      · subst k6
        rcases h7.split with ⟨_, k7⟩ | ⟨_, _, h, _⟩
        · exact k7
        · cases h
      · cases h
  injection hl with hl
  subst hl
  subst k5
  have hlt : ¬ r4.length < d := by
    intro hlt
    unfold takeR at g5
    rw [if_pos hlt] at g5
    cases g5
  unfold takeR at g5
  rw [if_neg hlt] at g5
  injection g5 with g5
  injection g5 with g5 g5'
  subst g5 g5'
  rcases h6.split with ⟨g6, k6⟩ | ⟨l', r6, hl, g6, k6⟩
  · refine fin rfl ?_ (hnone ?_)
    · rw [Option.bind_some] at g6
      unfold readC; rw [g1, Option.bind_some, e2, Option.bind_some, e3, Option.bind_some, g4, Option.bind_some, if_neg hlt, g6]; rfl
    · subst k6
      rcases h7.split with ⟨_, k7⟩ | ⟨_, _, h, _⟩
      · exact k7
      · cases h
  injection hl with hl
  subst hl
  subst k6
  rcases h7.split with ⟨g7, k7⟩ | ⟨l', r7, hl, g7, k7⟩
  · refine fin rfl ?_ (hnone k7)
    rw [Option.bind_some] at g7
    unfold readC; rw [g1, Option.bind_some, e2, Option.bind_some, e3, Option.bind_some, g4, Option.bind_some, if_neg hlt, g6, Option.bind_some, numsR_most (by decide), g7]; rfl
  injection hl with hl
  subst hl
  subst k7
  by_cases hf : ∃ x, x ∈ f ∧ 15 < x
  · refine fin rfl ?_ (hbad (.inr ?_))
    · unfold readC; rw [g1, Option.bind_some, e2, Option.bind_some, e3, Option.bind_some, g4, Option.bind_some, if_neg hlt, g6, Option.bind_some, numsR_most (by decide), g7, Option.bind_some, if_pos hf]; rfl
    · cases hm : mayC (mkC a b c (str (r4.take d))) (natsV f) with
      | false => rfl
      | true =>
        have ho := (mayC_ok.1 hm).nodes
        obtain ⟨x, hx, hx2⟩ := hf
        have := ho (x : Int) (by simp only [natsV, List.mem_map]; exact ⟨x, hx, rfl⟩)
        omega
  have e7 : numsR 15 e r6 = some (f, r7) := by rw [numsR_most (by decide), g7, Option.bind_some, if_neg hf]
  cases hm : mayC (mkC a b c (str (r4.take d))) (natsV f) with
  | false =>
    refine fin rfl ?_ (hbad (.inr hm))
    unfold readC; rw [g1, Option.bind_some, e2, Option.bind_some, e3, Option.bind_some, g4, Option.bind_some, if_neg hlt, g6, Option.bind_some, e7, Option.bind_some]
    rw [if_neg (by rw [hm]; decide)]
  | true =>
    rw [hgood (by omega) hm]
    refine StepG.good ?_
    unfold readC; rw [g1, Option.bind_some, e2, Option.bind_some, e3, Option.bind_some, g4, Option.bind_some, if_neg hlt, g6, Option.bind_some, e7, Option.bind_some]
    rw [if_pos hm]

/-- Take, by states. -/
theorem rtakeS_calls {w : World} {pr : Nat} {st : Option (List B8)} (h : RdS w pr st) (n : Nat) :
    Calls Try.prog 39 #[.pointer (some ⟨pr, 0, none⟩), .int .i64 (n : Int)] w fun e w' => ∃ (A : Option Addr) (c : Nat) (t : List B8) (st' : Option (List B8)),
      e = .returned (.slice A t.length c) ∧ At w' A (bys t) ∧ (∀ b off, A = some ⟨b, off, none⟩ → b < pr) ∧ (A = none → c = 0) ∧ RdS w' pr st' ∧ w.grownBy w' (some pr) ∧ StepG (takeR n) st t st' ∧ t.length ≤ n ∧ t.length ≤ c := by
  cases st with
  | none =>
    obtain ⟨A, c, l, h⟩ := h
    refine (rtake_bad (n : Int) h (.inl rfl)).mono ?_
    rintro e w' ⟨rfl, hR, hg⟩
    exact ⟨none, 0, [], none, rfl, fun i x hx => (by simp [bys] at hx), fun b off he => (by cases he), fun _ => rfl, ⟨A, c, l, hR⟩, hg, StepG.bad rfl, by simp, by simp⟩
  | some l =>
    obtain ⟨A, c, h⟩ := h
    by_cases hlt : l.length < n
    · refine (rtake_bad (n : Int) h (.inr (.inr (by omega)))).mono ?_
      rintro e w' ⟨rfl, hR, hg⟩
      exact ⟨none, 0, [], none, rfl, fun i x hx => (by simp [bys] at hx), fun b off he => (by cases he), fun _ => rfl, ⟨A, c, l, hR⟩, hg, StepG.bad (by rw [Option.bind_some, takeR, if_pos hlt]), by simp, by simp⟩
    · refine (rtake_good n h (by omega)).mono ?_
      rintro e w' ⟨rfl, hR, hg⟩
      have hl : (l.take n).length = n := by simp; omega
      have hat := h.at'.take n
      rw [bys_take] at hat
      refine ⟨A, c, l.take n, some (l.drop n), by rw [hl], hat.grown' hg (fun b off he hh => by injection hh with hh; have := h.far b off he; omega), h.far, h.nil, ⟨_, _, hR⟩, hg, StepG.good (by rw [takeR, if_neg hlt]), by omega, ?_⟩
      have := h.len
      omega

theorem RdAt.belowB {w w' : World} {pr c B : Nat} {A : Option Addr} {bad : Bool} {l : List B8} (h : RdAt w pr A c bad l) (hb : Below B w w') (hp : pr < B) : RdAt w' pr A c bad l := by
  refine ⟨(hb.block pr hp).trans h.hd, ?_, h.far, h.len, h.nil, h.spot⟩
  intro i x hx
  obtain ⟨b, off, he, hc⟩ := h.at' i x hx
  exact ⟨b, off, he, (World.cell?_of_block (hb.block b (Nat.lt_trans (h.far b off he) hp))).trans hc⟩
theorem RdAt.other {w : World} {pr g c o : Nat} {A : Option Addr} {bad : Bool} {l : List B8} {v : Value} (h : RdAt w pr A c bad l) (hg : pr < g) : RdAt (w.setCell ⟨g, o, none⟩ v) pr A c bad l :=
  ⟨(heap_setCell_other w ⟨g, o, none⟩ pr v (by simp; omega)).trans h.hd, h.at'.grown' (grown_set w g o v) (fun b off he hh => by injection hh with hh; have := h.far b off he; omega), h.far, h.len, h.nil, h.spot⟩
theorem RdS.belowB {w w' : World} {pr B : Nat} {st : Option (List B8)} (h : RdS w pr st) (hb : Below B w w') (hp : pr < B) : RdS w' pr st := by
  cases st with
  | none => obtain ⟨A, c, l, h⟩ := h; exact ⟨A, c, l, h.belowB hb hp⟩
  | some l => obtain ⟨A, c, h⟩ := h; exact ⟨A, c, h.belowB hb hp⟩
theorem RdS.other {w : World} {pr g o : Nat} {st : Option (List B8)} {v : Value} (h : RdS w pr st) (hg : pr < g) : RdS (w.setCell ⟨g, o, none⟩ v) pr st := by
  cases st with
  | none => obtain ⟨A, c, l, h⟩ := h; exact ⟨A, c, l, h.other hg⟩
  | some l => obtain ⟨A, c, h⟩ := h; exact ⟨A, c, h.other hg⟩
theorem RdS.lt {w : World} {pr : Nat} {st : Option (List B8)} (h : RdS w pr st) : pr < w.heap.size := by
  cases st with
  | none => obtain ⟨A, c, l, h⟩ := h; exact (Array.getElem?_eq_some_iff.1 h.hd).1
  | some l => obtain ⟨A, c, h⟩ := h; exact (Array.getElem?_eq_some_iff.1 h.hd).1

end Go.Proofs.Ytfcacplecapgfaa
