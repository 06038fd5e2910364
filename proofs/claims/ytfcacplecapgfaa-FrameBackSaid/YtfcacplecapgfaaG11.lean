/- What is written is read as it was; what is read, written again, is the bytes. -/
import Derived.Test.YtfcacplecapgfaaG10
namespace Go.Proofs.Ytfcacplecapgfaa
open Go.RowKit
set_option linter.unusedVariables false
set_option linter.unusedSimpArgs false

theorem str_strB (k : ByteArray) : str (strB k) = k := by
  unfold str strB
  rw [List.map_map]
  have : (fun x : B8 => UInt8.ofBitVec x) ∘ (fun b : UInt8 => b.toBitVec) = id := by
    funext b; rfl
  rw [this, List.map_id]
theorem strB_str (l : List B8) : strB (str l) = l := by
  unfold str strB
  simp only [List.map_map]
  have : (fun b : UInt8 => b.toBitVec) ∘ (fun x : B8 => UInt8.ofBitVec x) = id := by
    funext b; rfl
  rw [this, List.map_id]
theorem numsB_one (n : Nat) : numsB [n] = numB n := by simp [numsB]
theorem numsR_numsB {most : Nat} (hm : most < 18446744073709551616) (rest : List B8) : ∀ (k : Nat) (ns : List Nat), ns.length = k → (∀ x, x ∈ ns → x ≤ most) → numsR most k (numsB ns ++ rest) = some (ns, rest) := by
  intro k
  induction k generalizing rest with
  | zero =>
    intro ns hl _
    have : ns = [] := List.eq_nil_of_length_eq_zero hl
    subst this
    rfl
  | succ k ih =>
    intro ns hl hx
    obtain ⟨init, x, rfl⟩ : ∃ init x, ns = init ++ [x] := by
      rcases List.eq_nil_or_concat ns with h | ⟨i, x, h⟩
      · subst h; simp at hl
      · exact ⟨i, x, by rw [h, List.concat_eq_append]⟩
    have hl2 : init.length = k := by simpa using hl
    have hxx := hx x (by simp)
    rw [numsR, numsB_append, List.append_assoc, ih (numsB [x] ++ rest) init hl2 (fun y hy => hx y (by simp [hy])), Option.bind_some]
    simp only
    rw [numsB_one, numR_numB hxx (by omega)]
    rfl
theorem numsR_some {most : Nat} : ∀ {k : Nat} {l r : List B8} {ms : List Nat}, numsR most k l = some (ms, r) → l = numsB ms ++ r ∧ ms.length = k ∧ ∀ x, x ∈ ms → x ≤ most
  | 0, l, r, ms, h => by
    rw [numsR] at h
    injection h with h
    injection h with h1 h2
    subst h1 h2
    exact ⟨rfl, rfl, fun x hx => by cases hx⟩
  | k + 1, l, r, ms, h => by
    rw [numsR] at h
    cases hx : numsR most k l with
    | none => rw [hx] at h; cases h
    | some p =>
      obtain ⟨p1, p2⟩ := p
      rw [hx, Option.bind_some] at h
      simp only at h
      cases hy : numR most p2 with
      | none => rw [hy] at h; cases h
      | some q =>
        obtain ⟨q1, q2⟩ := q
        rw [hy, Option.map_some] at h
        injection h with h
        injection h with h1 h2
        obtain ⟨i1, i2, i3⟩ := numsR_some hx
        obtain ⟨j1, j2, _⟩ := numR_some hy
        subst h1 h2
        refine ⟨by rw [i1, j1, numsB_append, numsB_one, List.append_assoc], by simp [i2], fun x hxm => ?_⟩
        rcases List.mem_append.1 hxm with hh | hh
        · exact i3 x hh
        · rw [List.mem_singleton] at hh; subst hh; exact j2
theorem numsR_one {most : Nat} (l : List B8) : numsR most 1 l = (numR most l).map fun q => ([q.1], q.2) := by
  rw [numsR, numsR, Option.bind_some]; rfl
theorem cmdB_split (c : Cm) (l : List Int) (rest : List B8) : cmdB c l ++ rest = numsB [c.id.toNat, c.kind.toNat, c.blob.toNat, c.other.toNat, c.index.toNat, c.node.toNat, c.size.toNat] ++ (numB c.sum.toNat ++ (numsB [c.k.toNat, c.m.toNat] ++ (numB c.key.size ++ (strB c.key ++ (numB l.length ++ (numsB (natsOf l) ++ rest)))))) := by
  unfold cmdB cmdN
  rw [← numsB_one c.sum.toNat, ← numsB_one c.key.size, ← numsB_one l.length]
  simp only [numsB_cons, numsB_nil, List.append_assoc, List.append_nil, List.nil_append]
theorem readC_cmdB {c : Cm} {l : List Int} (h : OkC c l) (hs : SumOk c) (rest : List B8) : readC (cmdB c l ++ rest) = some ((c, l), rest) := by
  have h1 := h.id; have h2 := h.kind; have h3 := h.blob; have h4 := h.other; have h5 := h.index; have h6 := h.node; have h7 := h.size; have h8 := h.k; have h9 := h.m; have h10 := h.key; have h11 := h.len
  obtain ⟨hs1, hs2⟩ := hs
  rw [cmdB_split]
  unfold readC
  rw [numsR_numsB (by decide) _ 7 _ rfl (by
    intro x hx
    simp only [List.mem_cons, List.not_mem_nil, or_false] at hx
    rcases hx with rfl | rfl | rfl | rfl | rfl | rfl | rfl <;> omega), Option.bind_some]
  simp only
  rw [numR_numB (by omega) (by omega), Option.bind_some]
  simp only
  rw [numsR_numsB (by decide) _ 2 _ rfl (by
    intro x hx
    simp only [List.mem_cons, List.not_mem_nil, or_false] at hx
    rcases hx with rfl | rfl <;> omega), Option.bind_some]
  simp only
  rw [numR_numB (by omega) (by omega), Option.bind_some]
  simp only
  have hk : (strB c.key).length = c.key.size := by simp
  rw [if_neg (by rw [List.length_append]; omega)]
  rw [List.drop_append_of_le_length (by omega), List.drop_of_length_le (by omega), List.nil_append]
  rw [numR_numB (by omega) (by omega), Option.bind_some]
  simp only
  rw [numsR_numsB (by decide) _ l.length (natsOf l) (by simp [natsOf]) (by
    intro x hx
    obtain ⟨y, hy, rfl⟩ := List.mem_map.1 hx
    have := h.nodes y hy
    omega), Option.bind_some]
  simp only
  rw [List.take_append_of_le_length (by omega), List.take_of_length_le (by omega), str_strB, natsV_of (fun x hx => (h.nodes x hx).1)]
  have hc : mkC [c.id.toNat, c.kind.toNat, c.blob.toNat, c.other.toNat, c.index.toNat, c.node.toNat, c.size.toNat] c.sum.toNat [c.k.toNat, c.m.toNat] c.key = c := by
    obtain ⟨c1, c2, c3, c4, c5, c6, c7, c8, c9, c10, c11⟩ := c
    simp only [mkC, List.getD_cons_zero, List.getD_cons_succ]
    simp only at h1 h2 h3 h4 h5 h6 h7 h8 h9 hs1
    rw [Int.toNat_of_nonneg h1.1, Int.toNat_of_nonneg h2.1, Int.toNat_of_nonneg h3.1, Int.toNat_of_nonneg h4.1, Int.toNat_of_nonneg h5.1, Int.toNat_of_nonneg h6.1, Int.toNat_of_nonneg h7.1, Int.toNat_of_nonneg h8.1, Int.toNat_of_nonneg h9.1, Int.toNat_of_nonneg hs1]
  rw [hc, if_pos (mayC_ok.2 h)]
theorem natsOf_natsV (ns : List Nat) : natsOf (natsV ns) = ns := by
  unfold natsOf natsV
  rw [List.map_map]
  have : Int.toNat ∘ (fun n : Nat => (n : Int)) = id := by funext n; simp
  rw [this, List.map_id]
theorem readC_some {l r : List B8} {c : Cm} {ns : List Int} (h : readC l = some ((c, ns), r)) : l = cmdB c ns ++ r := by
  unfold readC at h
  cases h1 : numsR 1152921504606846976 7 l with
  | none => rw [h1] at h; cases h
  | some a =>
    obtain ⟨a1, a2⟩ := a
    rw [h1, Option.bind_some] at h
    simp only at h
    cases h2 : numR 4294967295 a2 with
    | none => rw [h2] at h; cases h
    | some b =>
      obtain ⟨b1, b2⟩ := b
      rw [h2, Option.bind_some] at h
      simp only at h
      cases h3 : numsR 255 2 b2 with
      | none => rw [h3] at h; cases h
      | some c' =>
        obtain ⟨c1, c2⟩ := c'
        rw [h3, Option.bind_some] at h
        simp only at h
        cases h4 : numR 8 c2 with
        | none => rw [h4] at h; cases h
        | some d =>
          obtain ⟨d1, d2⟩ := d
          rw [h4, Option.bind_some] at h
          simp only at h
          split at h
          · cases h
          · rename_i hlt
            cases h5 : numR 255 (d2.drop d1) with
            | none => rw [h5] at h; cases h
            | some e =>
              obtain ⟨e1, e2⟩ := e
              rw [h5, Option.bind_some] at h
              simp only at h
              cases h6 : numsR 15 e1 e2 with
              | none => rw [h6] at h; cases h
              | some f =>
                obtain ⟨f1, f2⟩ := f
                rw [h6, Option.bind_some] at h
                simp only at h
                split at h
                · injection h with h
                  injection h with h h9
                  injection h with h7 h8
                  subst h7 h8 h9
                  obtain ⟨i1, i2, _⟩ := numsR_some h1
                  obtain ⟨j1, _, _⟩ := numR_some h2
                  obtain ⟨k1, k2, _⟩ := numsR_some h3
                  obtain ⟨l1, _, _⟩ := numR_some h4
                  obtain ⟨m1, _, _⟩ := numR_some h5
                  obtain ⟨n1, n2, _⟩ := numsR_some h6
                  obtain ⟨x0, x1, x2, x3, x4, x5, x6, rfl⟩ := len7 i2
                  obtain ⟨y0, y1, rfl⟩ := len2 k2
                  have hd : d2 = d2.take d1 ++ d2.drop d1 := (List.take_append_drop d1 d2).symm
                  have hkl : (d2.take d1).length = d1 := by simp; omega
                  rw [cmdB_split]
                  simp only [mkC, List.getD_cons_zero, List.getD_cons_succ, Int.toNat_natCast, natsOf_natsV, length_natsV, strB_str]
                  have hsz : (str (d2.take d1)).size = d1 := by
                    have := length_strB (str (d2.take d1))
                    rw [strB_str] at this
                    omega
                  rw [hsz, n2, ← n1, ← m1, ← hd, ← l1, ← k1, ← j1, ← i1]
                · cases h

theorem votesB_one (v : Vt) : votesB [v] = numsB [v.1.toNat, v.2.1.toNat] ++ cmdB v.2.2.1 v.2.2.2 := by
  simp [votesB, voteB]
theorem votesR_votesB (rest : List B8) : ∀ (k : Nat) (V : List Vt), V.length = k → (∀ v, v ∈ V → mayV v = true ∧ SumOk v.2.2.1) → votesR k (votesB V ++ rest) = some (V, rest) := by
  intro k
  induction k generalizing rest with
  | zero =>
    intro V hl _
    have : V = [] := List.eq_nil_of_length_eq_zero hl
    subst this
    rfl
  | succ k ih =>
    intro V hl hx
    obtain ⟨init, v, rfl⟩ : ∃ init x, V = init ++ [x] := by
      rcases List.eq_nil_or_concat V with h | ⟨i, x, h⟩
      · subst h; simp at hl
      · exact ⟨i, x, by rw [h, List.concat_eq_append]⟩
    have hl2 : init.length = k := by simpa using hl
    have hv := hx v (by simp)
    obtain ⟨p1, p2, p3⟩ := mayV_parts hv.1
    rw [votesR, votesB_append, List.append_assoc, ih (votesB [v] ++ rest) init hl2 (fun y hy => hx y (by simp [hy])), Option.bind_some]
    simp only
    rw [votesB_one, List.append_assoc, numsR_numsB (by decide) _ 2 _ rfl (by
      intro x hx
      simp only [List.mem_cons, List.not_mem_nil, or_false] at hx
      rcases hx with rfl | rfl <;> omega), Option.bind_some]
    simp only
    rw [readC_cmdB p3 hv.2, Option.map_some]
    simp only [List.getD_cons_zero, List.getD_cons_succ]
    obtain ⟨v1, v2, vc, vn⟩ := v
    simp only at p1 p2
    rw [Int.toNat_of_nonneg p1.1, Int.toNat_of_nonneg p2.1]
theorem votesR_some : ∀ {k : Nat} {l r : List B8} {V : List Vt}, votesR k l = some (V, r) → l = votesB V ++ r ∧ V.length = k
  | 0, l, r, V, h => by
    rw [votesR] at h
    injection h with h
    injection h with h1 h2
    subst h1 h2
    exact ⟨rfl, rfl⟩
  | k + 1, l, r, V, h => by
    rw [votesR] at h
    cases hx : votesR k l with
    | none => rw [hx] at h; cases h
    | some p =>
      obtain ⟨p1, p2⟩ := p
      rw [hx, Option.bind_some] at h
      simp only at h
      cases hy : numsR 1152921504606846976 2 p2 with
      | none => rw [hy] at h; cases h
      | some q =>
        obtain ⟨q1, q2⟩ := q
        rw [hy, Option.bind_some] at h
        simp only at h
        cases hz : readC q2 with
        | none => rw [hz] at h; cases h
        | some c =>
          obtain ⟨⟨c1, c2⟩, c3⟩ := c
          rw [hz, Option.map_some] at h
          injection h with h
          injection h with h1 h2
          obtain ⟨i1, i2⟩ := votesR_some hx
          obtain ⟨j1, j2, _⟩ := numsR_some hy
          have k1 := readC_some hz
          obtain ⟨x0, x1, rfl⟩ := len2 j2
          subst h1 h2
          refine ⟨?_, by simp [i2]⟩
          rw [votesB_append, votesB_one]
          simp only [List.getD_cons_zero, List.getD_cons_succ, Int.toNat_natCast]
          rw [List.append_assoc, List.append_assoc, ← k1, ← j1, ← i1]
theorem msgB_split (m : Mg) (rest : List B8) : msgB m ++ rest = numsB (msgN m) ++ (okB m.h.ok :: (cmdB m.h.cmd m.cn ++ (numB m.vs.length ++ (votesB m.vs ++ (numB m.bs.length ++ (m.bs ++ rest)))))) := by
  unfold msgB
  rw [← numsB_one m.vs.length, ← numsB_one m.bs.length]
  simp only [List.append_assoc, List.cons_append, List.nil_append]
theorem okB_le (b : Bool) : ¬ 1 < (okB b).toNat := by cases b <;> decide
theorem okB_eq (b : Bool) : (okB b == 1#8) = b := by cases b <;> decide
theorem readM_msgB {m : Mg} (h : OkM m) (hs : SumOk m.h.cmd) (hv : ∀ v, v ∈ m.vs → SumOk v.2.2.1) (rest : List B8) : readM (msgB m ++ rest) = some (m, rest) := by
  have h1 := h.kind; have h2 := h.frm; have h3 := h.to; have h4 := h.ballot; have h5 := h.slot; have h6 := h.blob; have h7 := h.index; have h8 := h.epoch; have h9 := h.id; have h10 := h.vlen; have h11 := h.blen
  rw [msgB_split]
  unfold readM
  rw [numsR_numsB (by decide) _ 9 _ rfl (msgN_le h), Option.bind_some]
  simp only
  have ht : ∀ x (l : List B8), takeR 1 (x :: l) = some ([x], l) := by
    intro x l
    unfold takeR
    rw [if_neg (by simp)]; rfl
  rw [ht, Option.bind_some]
  simp only [List.getD_cons_zero]
  rw [if_neg (okB_le _), readC_cmdB (mayC_ok.1 h.cmd) hs, Option.bind_some]
  simp only
  rw [numR_numB h10 (by omega), Option.bind_some]
  simp only
  rw [votesR_votesB _ m.vs.length m.vs rfl (fun v hm => ⟨h.votes v hm, hv v hm⟩), Option.bind_some]
  simp only
  rw [numR_numB h11 (by omega), Option.bind_some]
  simp only
  have htk : takeR m.bs.length (m.bs ++ rest) = some (m.bs, rest) := by
    unfold takeR
    rw [if_neg (by rw [List.length_append]; omega), List.take_append_of_le_length (Nat.le_refl _), List.take_length, List.drop_append_of_le_length (Nat.le_refl _), List.drop_length, List.nil_append]
  rw [htk, Option.bind_some]
  simp only
  rw [okB_eq]
  have hm : mkM (msgN m) m.h.ok m.h.cmd m.cn m.vs m.bs = m := by
    obtain ⟨⟨m1, m2, m3, m4, m5, m6, m7, m8, m9, m10, m11⟩, cn, vs, bs⟩ := m
    simp only [mkM, msgN, List.getD_cons_zero, List.getD_cons_succ]
    simp only at h1 h2 h3 h4 h5 h6 h7 h8 h9
    rw [Int.toNat_of_nonneg (by omega), Int.toNat_of_nonneg h2.1, Int.toNat_of_nonneg h3.1, Int.toNat_of_nonneg h4.1, Int.toNat_of_nonneg h5.1, Int.toNat_of_nonneg h6.1, Int.toNat_of_nonneg h7.1, Int.toNat_of_nonneg h8.1, Int.toNat_of_nonneg h9.1]
  rw [hm, if_pos (mayM_ok.2 h)]
theorem readM_some {l r : List B8} {m : Mg} (h : readM l = some (m, r)) : l = msgB m ++ r ∧ mayM m = true ∧ SumOk m.h.cmd := by
  unfold readM at h
  cases h1 : numsR 1152921504606846976 9 l with
  | none => rw [h1] at h; cases h
  | some a =>
    obtain ⟨a1, a2⟩ := a
    rw [h1, Option.bind_some] at h
    simp only at h
    cases h2 : takeR 1 a2 with
    | none => rw [h2] at h; cases h
    | some b =>
      obtain ⟨b1, b2⟩ := b
      rw [h2, Option.bind_some] at h
      simp only at h
      split at h
      · cases h
      · rename_i hle
        cases h3 : readC b2 with
        | none => rw [h3] at h; cases h
        | some c' =>
          obtain ⟨⟨c1, c2⟩, c3⟩ := c'
          rw [h3, Option.bind_some] at h
          simp only at h
          cases h4 : numR 1000 c3 with
          | none => rw [h4] at h; cases h
          | some d =>
            obtain ⟨d1, d2⟩ := d
            rw [h4, Option.bind_some] at h
            simp only at h
            cases h5 : votesR d1 d2 with
            | none => rw [h5] at h; cases h
            | some e =>
              obtain ⟨e1, e2⟩ := e
              rw [h5, Option.bind_some] at h
              simp only at h
              cases h6 : numR 2000 e2 with
              | none => rw [h6] at h; cases h
              | some f =>
                obtain ⟨f1, f2⟩ := f
                rw [h6, Option.bind_some] at h
                simp only at h
                cases h7 : takeR f1 f2 with
                | none => rw [h7] at h; cases h
                | some g =>
                  obtain ⟨g1, g2⟩ := g
                  rw [h7, Option.bind_some] at h
                  simp only at h
                  split at h
                  · rename_i hmay
                    injection h with h
                    injection h with h8 h9
                    subst h8 h9
                    refine ⟨?_, hmay, (readC_may h3).2⟩
                    obtain ⟨i1, i2, _⟩ := numsR_some h1
                    obtain ⟨x0, x1, x2, x3, x4, x5, x6, x7, x8, rfl⟩ := len9 i2
                    have tk : ∀ {n : Nat} {l t u : List B8}, takeR n l = some (t, u) → l = t ++ u ∧ t.length = n := by
                      intro n l t u h
                      unfold takeR at h
                      split at h
                      · cases h
                      · injection h with h
                        injection h with h1 h2
                        subst h1 h2
                        exact ⟨(List.take_append_drop n l).symm, by simp; omega⟩
                    obtain ⟨j1, j2⟩ := tk h2
                    obtain ⟨y, rfl⟩ : ∃ y, b1 = [y] := by
                      match b1, j2 with
                      | [y], _ => exact ⟨y, rfl⟩
                    have k1 := readC_some h3
                    obtain ⟨l1, _, _⟩ := numR_some h4
                    obtain ⟨n1, n2⟩ := votesR_some h5
                    obtain ⟨o1, _, _⟩ := numR_some h6
                    obtain ⟨p1, p2⟩ := tk h7
                    have hy : okB (y == 1#8) = y := by
                      simp only [List.getD_cons_zero] at hle
                      have hy2 : y.toNat = 0 ∨ y.toNat = 1 := by omega
                      rcases hy2 with hy2 | hy2
                      · have : y = 0#8 := BitVec.eq_of_toNat_eq (by simpa using hy2)
                        subst this; rfl
                      · have : y = 1#8 := BitVec.eq_of_toNat_eq (by simpa using hy2)
                        subst this; rfl
                    rw [msgB_split]
                    simp only [mkM, msgN, List.getD_cons_zero, List.getD_cons_succ, Int.toNat_natCast]
                    rw [hy, n2, p2, ← p1, ← o1, ← n1, ← l1, ← k1]
                    rw [j1] at i1
                    exact i1
                  · cases h
theorem oneM_some {l : List B8} {m : Mg} (h : oneM l = some m) : l = msgB m ∧ mayM m = true := by
  unfold oneM at h
  cases hr : readM l with
  | none => rw [hr] at h; cases h
  | some p =>
    obtain ⟨x, r⟩ := p
    rw [hr] at h
    cases r with
    | nil =>
      injection h with h
      subst h
      obtain ⟨h1, h2, _⟩ := readM_some hr
      exact ⟨by simpa using h1, h2⟩
    | cons y r => cases h
theorem oneC_some {l : List B8} {c : Cm} {ns : List Int} (h : oneC l = some (c, ns)) : l = cmdB c ns ∧ mayC c ns = true ∧ SumOk c := by
  unfold oneC at h
  cases hr : readC l with
  | none => rw [hr] at h; cases h
  | some p =>
    obtain ⟨x, r⟩ := p
    rw [hr] at h
    cases r with
    | nil =>
      injection h with h
      subst h
      have h1 := readC_some hr
      exact ⟨by simpa using h1, readC_may hr⟩
    | cons y r => cases h
theorem oneM_msgB {m : Mg} (h : OkM m) (hs : SumOk m.h.cmd) (hv : ∀ v, v ∈ m.vs → SumOk v.2.2.1) : oneM (msgB m) = some m := by
  have := readM_msgB h hs hv []
  rw [List.append_nil] at this
  unfold oneM
  rw [this]
theorem oneC_cmdB {c : Cm} {l : List Int} (h : OkC c l) (hs : SumOk c) : oneC (cmdB c l) = some (c, l) := by
  have := readC_cmdB h hs []
  rw [List.append_nil] at this
  unfold oneC
  rw [this]
end Go.Proofs.Ytfcacplecapgfaa
