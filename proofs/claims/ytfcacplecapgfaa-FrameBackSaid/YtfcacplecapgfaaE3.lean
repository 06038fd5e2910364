/- Contract: frame's writer, numbers. -/
import Derived.Test.YtfcacplecapgfaaE2
namespace Go.Proofs.Ytfcacplecapgfaa
open Go.RowKit
set_option linter.unusedVariables false
set_option linter.unusedSimpArgs false

/-- Numbers' bytes, one behind the other. -/
def numsB (ns : List Nat) : List B8 := (ns.map numB).flatten
@[simp] theorem numsB_nil : numsB [] = [] := rfl
theorem numsB_append (a b : List Nat) : numsB (a ++ b) = numsB a ++ numsB b := by simp [numsB]
theorem numsB_cons (a : Nat) (b : List Nat) : numsB (a :: b) = numB a ++ numsB b := by simp [numsB]
theorem numB_len {n : Nat} (h : n < 18446744073709551616) : (numB n).length ≤ 9 := by
  have := leB_len8 h
  simp [numB]; omega
theorem numsB_len {ns : List Nat} (h : ∀ n, n ∈ ns → n < 18446744073709551616) : (numsB ns).length ≤ 9 * ns.length := by
  induction ns with
  | nil => simp
  | cons a b ih =>
    rw [numsB_cons, List.length_append, List.length_cons]
    have := numB_len (h a (List.mem_cons_self ..))
    have := ih fun n hn => h n (List.mem_cons_of_mem _ hn)
    omega

/-- A writer that has bytes of its own. -/
structure WrAt (w : World) (pw : Nat) (A : Option Addr) (c : Nat) (xs : List B8) : Prop where
  hd : w.heap[pw]? = some (.cells #[.slice A xs.length c] 54 (0, 0))
  own : w.ownsRow (pw + 1) 5 1 (.slice A xs.length c) xs.length (bys xs)
/-- What a writer's calls change: its cell, its bytes, what is new. -/
structure Chg (w w' : World) (pw : Nat) (A A' : Option Addr) : Prop where
  os : w'.os = w.os
  tape : w'.tape = w.tape
  output : w'.output = w.output
  size : w.heap.size ≤ w'.heap.size
  block : ∀ k, k < w.heap.size → k ≠ pw → A ≠ some ⟨k, 0, none⟩ → w'.heap[k]? = w.heap[k]?
  lies : A' = A ∨ A' = none ∨ ∃ k, w.heap.size ≤ k ∧ A' = some ⟨k, 0, none⟩
theorem Chg.refl (w : World) (pw : Nat) (A : Option Addr) : Chg w w pw A A := ⟨rfl, rfl, rfl, Nat.le_refl _, fun _ _ _ _ => rfl, .inl rfl⟩
theorem Chg.trans {w w1 w2 : World} {pw : Nat} {A A1 A2 : Option Addr} (h : Chg w w1 pw A A1) (k : Chg w1 w2 pw A1 A2) : Chg w w2 pw A A2 := by
  refine ⟨k.os.trans h.os, k.tape.trans h.tape, k.output.trans h.output, Nat.le_trans h.size k.size, fun i hi hp hA => ?_, ?_⟩
  · refine (k.block i (Nat.lt_of_lt_of_le hi h.size) hp fun he => ?_).trans (h.block i hi hp hA)
    rcases h.lies with h1 | h1 | ⟨j, hj, h1⟩
    · rw [h1] at he; exact hA he
    · rw [h1] at he; cases he
    · rw [h1] at he; injection he with he; injection he with he; omega
  · rcases k.lies with h1 | h1 | ⟨j, hj, h1⟩
    · rw [h1]; exact h.lies
    · exact .inr (.inl h1)
    · exact .inr (.inr ⟨j, Nat.le_trans h.size hj, h1⟩)
theorem Chg.below {w w' : World} {pw : Nat} {A A' : Option Addr} (h : Chg w w' pw A A') (hA : ∀ k, A = some ⟨k, 0, none⟩ → pw < k) (hp : pw ≤ w.heap.size) : Below pw w w' :=
  ⟨h.os, h.tape, h.output, h.size, fun k hk => h.block k (by omega) (by omega) fun he => by have := hA k he; omega⟩
theorem Chg.at {w w' : World} {pw : Nat} {A0 A' A : Option Addr} {vs : List Value} (h : Chg w w' pw A0 A') (hA : At w A vs) (hf : ∀ b off, A = some ⟨b, off, none⟩ → b ≠ pw ∧ A0 ≠ some ⟨b, 0, none⟩) : At w' A vs := by
  intro i x hx
  obtain ⟨b, off, rfl, hc⟩ := hA i x hx
  obtain ⟨h1, h2⟩ := hf b off rfl
  exact ⟨b, off, rfl, (World.cell?_of_block (h.block b (block_lt hc) h1 h2)).trans hc⟩
theorem Chg.far {w w' : World} {pw : Nat} {A0 A' A : Option Addr} {vs : List Value} (h : Chg w w' pw A0 A') (hA : At w A vs) (hvs : 0 < vs.length) (hf : ∀ b off, A = some ⟨b, off, none⟩ → b ≠ pw ∧ A0 ≠ some ⟨b, 0, none⟩) : ∀ b off, A = some ⟨b, off, none⟩ → b ≠ pw ∧ A' ≠ some ⟨b, 0, none⟩ := by
  intro b off he
  obtain ⟨h1, h2⟩ := hf b off he
  refine ⟨h1, fun h3 => ?_⟩
  obtain ⟨b', off', he', hc⟩ := hA 0 vs[0] (List.getElem?_eq_getElem hvs)
  rw [he] at he'
  injection he' with he'
  injection he' with he1 _
  have hlt := block_lt hc
  rcases h.lies with h4 | h4 | ⟨k, hk, h4⟩
  · rw [h4] at h3; exact h2 h3
  · rw [h4] at h3; cases h3
  · rw [h4] at h3; injection h3 with h3; injection h3 with h3; omega

theorem own_addr {w : World} {B e sz n c : Nat} {A : Option Addr} {vs : List Value} (h : w.ownsRow B e sz (.slice A n c) n vs) : (A = none ∧ (Value.slice A n c).ownBlock = none) ∨ ∃ g, A = some ⟨g, 0, none⟩ ∧ (Value.slice A n c).ownBlock = some g ∧ B ≤ g ∧ g < w.heap.size := by
  have hlt := h.lt
  rcases h.2 with ⟨hv, _⟩ | ⟨g, cap, cur, hv, hg, _⟩
  · injection hv with e1 e2 e3
    subst e1
    exact .inl ⟨rfl, rfl⟩
  · injection hv with e1 e2 e3
    subst e1
    exact .inr ⟨g, rfl, rfl, hg, (hlt g rfl).2⟩
theorem Chg.ofBelow {w w' : World} (h : Below w.heap.size w w') (pw : Nat) (A : Option Addr) : Chg w w' pw A A := ⟨h.os, h.tape, h.output, h.size, fun k hk _ _ => h.block k hk, .inl rfl⟩
theorem Chg.put (w : World) (pw : Nat) (v : Value) (A : Option Addr) : Chg w (w.setCell ⟨pw, 0, none⟩ v) pw A A :=
  ⟨rfl, rfl, rfl, by simp, fun k _ hk _ => heap_setCell_other w ⟨pw, 0, none⟩ k v hk, .inl rfl⟩
theorem Chg.app {w w' : World} {pw B B' n c n' c' : Nat} {A A' : Option Addr} {vs vs' : List Value} (ho : w.ownsRow B 5 1 (.slice A n c) n vs) (ho' : w'.ownsRow B' 5 1 (.slice A' n' c') n' vs')
    (hg : w.grownBy w' (Value.slice A n c).ownBlock ∧ ((Value.slice A' n' c').ownBlock = (Value.slice A n c).ownBlock ∨ (Value.slice A' n' c').ownBlock = some w.heap.size)) : Chg w w' pw A A' := by
  obtain ⟨hg, hl⟩ := hg
  refine ⟨hg.os, hg.tape, hg.output, hg.size, fun k hk _ hA => hg.block k hk fun he => ?_, ?_⟩
  · rcases own_addr ho with ⟨h1, h2⟩ | ⟨g, h1, h2, _⟩
    · rw [h2] at he; cases he
    · rw [h2] at he; injection he with he; subst he; exact hA h1
  · rcases own_addr ho' with ⟨h1, h2⟩ | ⟨g, h1, h2, _⟩
    · exact .inr (.inl h1)
    · rw [h2] at hl
      rcases hl with hl | hl
      · rcases own_addr ho with ⟨h3, h4⟩ | ⟨g', h3, h4, _⟩
        · rw [h4] at hl; cases hl
        · rw [h4] at hl; injection hl with hl; subst hl; exact .inl (h1.trans h3.symm)
      · injection hl with hl; subst hl; exact .inr (.inr ⟨_, Nat.le_refl _, h1⟩)
theorem WrAt.lt {w : World} {pw c : Nat} {A : Option Addr} {xs : List B8} (h : WrAt w pw A c xs) : pw < w.heap.size := (Array.getElem?_eq_some_iff.1 h.hd).1
theorem WrAt.keep {w w' : World} {pw c : Nat} {A : Option Addr} {xs : List B8} (h : WrAt w pw A c xs) (hb : Below w.heap.size w w') : WrAt w' pw A c xs :=
  ⟨(hb.block pw h.lt).trans h.hd, own_below h.own hb⟩

theorem Chg.ne {w w' : World} {pw k : Nat} {A A' : Option Addr} (h : Chg w w' pw A A') (hk : k < w.heap.size) (hA : A ≠ some ⟨k, 0, none⟩) : A' ≠ some ⟨k, 0, none⟩ := by
  intro he
  rcases h.lies with h1 | h1 | ⟨j, hj, h1⟩
  · rw [h1] at he; exact hA he
  · rw [h1] at he; cases he
  · rw [h1] at he; injection he with he; injection he with he; omega
def natsV (ns : List Nat) : List Int := ns.map fun (n : Nat) => (n : Int)
@[simp] theorem length_natsV (ns : List Nat) : (natsV ns).length = ns.length := by simp [natsV]

set_option maxHeartbeats 2000000 in
set_option maxRecDepth 100000 in
theorem nums_calls {w : World} {pw c0 n c : Nat} {A0 A : Option Addr} {xs : List B8} {ns : List Nat} (hW : WrAt w pw A0 c0 xs) (hA : At w A (ints (natsV ns))) (hn : n = ns.length) (hf : 0 < ns.length → ∀ b off, A = some ⟨b, off, none⟩ → b ≠ pw ∧ A0 ≠ some ⟨b, 0, none⟩)
    (hs : ∀ x, x ∈ ns → x ≤ 1152921504606846976) (hlen : xs.length + 9 * ns.length ≤ 100000000) :
    Calls Try.prog 42 #[.pointer (some ⟨pw, 0, none⟩), .slice A n c] w fun e w' => e = .returned (.tuple #[]) ∧ ∃ A' c', WrAt w' pw A' c' (xs ++ numsB ns) ∧ Chg w w' pw A0 A' := by
  subst hn
  have HS := Lib.hid hs
  have HAT := Lib.hid hA
  have HF := Lib.hid hf
  have hW0 : WrAt w pw A0 c0 (xs ++ numsB (ns.take 0)) := by simpa using hW
  clear hs hA hf hW
  go_enter Try.func42, Try.ntmps42
  go_wp2_with fail
  go_loopw [10] (fun s wr => ∃ (t : Nat) (A1 : Option Addr) (c1 : Nat), t ≤ ns.length ∧ s = .int .i64 ((t : Nat) : Int) ∧ WrAt wr pw A1 c1 (xs ++ numsB (ns.take t)) ∧ Chg w wr pw A0 A1) (fun s _ => ns.length - (intOf s).toNat)
  case atStart => exact ⟨0, A0, c0, by omega, rfl, hW0, Chg.refl _ _ _⟩
  case round =>
    obtain ⟨t, A1, c1, ht, rfl, hW1, hC1⟩ := hrel
    rename World => w1
    clear hW0
    by_cases htn : t < ns.length
    · have hti : (t : Int) < (ns.length : Int) := by omega
      obtain ⟨b, off, rfl, hcx⟩ := (hC1.at HAT.out (HF.out (by omega))).int (k := t) (by simpa using htn)
      have hxe : (natsV ns)[t]'(by simpa using htn) = (ns[t] : Int) := by simp [natsV]
      rw [hxe] at hcx
      have hx60 := HS.out ns[t] (List.getElem_mem htn)
      have htk : numsB (ns.take (t + 1)) = numsB (ns.take t) ++ numB ns[t] := by rw [List.take_succ_eq_append_getElem htn, numsB_append]; simp [numsB]
      have HTK := Lib.hid htk
      have hl1 : (numsB (ns.take t)).length ≤ 9 * t := by
        have := numsB_len (ns := ns.take t) (fun n hn => by have := HS.out n (List.mem_of_mem_take hn); omega)
        rw [List.length_take, Nat.min_eq_left (by omega)] at this
        exact this
      generalize numsB (ns.take t) = ys at *
      generalize ns[t] = x at *
      clear htk hxe
      go_wp2_with fail
      go_loopw [6, 7] (fun s6 s7 wr => ∃ (y : Nat) (d : List B8) (A' : Option Addr) (cap : Nat), s7 = .int .i64 ((y : Nat) : Int) ∧ s6 = .slice A' d.length cap ∧ y ≤ x ∧ Hid (leB x = d ++ leB y) ∧ wr.ownsRow w1.heap.size 5 1 (.slice A' d.length cap) d.length (bys d) ∧ Below w1.heap.size w1 wr) (fun _ s7 _ => (intOf s7).toNat)
      case atStart => exact ⟨x, [], none, 0, rfl, rfl, Nat.le_refl _, rfl, World.ownsRow_nil _ _ _ _, Below.refl _ _⟩
      case round =>
        obtain ⟨y, d, A', cap, rfl, rfl, hyx, HD, hO, hb⟩ := hrel
        rename World => w2
        have hd8 : d.length ≤ 8 := by
          have h1 := leB_len8 (n := x) (by omega)
          rw [HD.out, List.length_append] at h1
          omega
        by_cases hy : 0 < y
        · have hyi : (0 : Int) < (y : Int) := by omega
          have hD2 : leB x = (d ++ [BitVec.ofNat 8 y]) ++ leB (y / 256) := by rw [HD.out, leB_pos (by omega)]; simp
          have HD2 := Lib.hid hD2
          clear hD2 hx60
          have hby : ((y : Int) % 256) = ((BitVec.ofNat 8 y).toNat : Int) := by rw [BitVec.toNat_ofNat]; omega
          have hbl := below1' w2 (.cells #[.int .u8 ((y : Int) % 256)] 5)
          have hlit : At (w2.alloc (.cells #[.int .u8 ((y : Int) % 256)] 5)) (some ⟨w2.heap.size, 0, none⟩) (bys [BitVec.ofNat 8 y]) := by
            have := at_new w2 #[.int .u8 ((y : Int) % 256)] 5 (0, 0)
            rw [hby] at this ⊢
            exact this
          have hO3 := own_below hO hbl
          have hz3 : w1.heap.size ≤ (w2.alloc (.cells #[.int .u8 ((y : Int) % 256)] 5)).heap.size := by have := hb.size; simp; omega
          have hB3 := hb.trans (hbl.mono hb.size)
          clear hby hO hb hbl
          go_wp2_with (at_builtin; refine app_bytes rfl (.tmp 19) (.tmp 22) rfl w1.heap.size rfl hO3 rfl (m := 1) (news := [BitVec.ofNat 8 y]) rfl hlit (by intro h; cases h) (by omega) hz3 ?_; intro A4 c4 w4 ho4 hb4 hg4 hc4; clear hg4)
          refine ⟨⟨y / 256, d ++ [BitVec.ofNat 8 y], A4, c4, congrArg (Value.int .i64) (by omega), by simp, by omega, HD2, by simpa using ho4, hB3.trans hb4⟩, by simp [intOf]; omega⟩
        · obtain rfl : y = 0 := by omega
          have hDx : leB x = d := by rw [HD.out, leB_zero]; simp
          have HDX := Lib.hid hDx
          have hnx : numB x = BitVec.ofNat 8 d.length :: d.reverse := by unfold numB; rw [hDx]
          have HNX := Lib.hid hnx
          clear hDx hnx hx60
          go_wp2_with fail
          refine (reverse_calls hO (by omega)).mono ?_
          rintro e w3 ⟨rfl, hO3, hg3⟩
          have hb3 := below_grown hb hg3 hO hb.size
          have hW3 := hW1.keep hb3
          have hC3 := hC1.trans (Chg.ofBelow hb3 pw A1)
          have hlt3 : w1.heap.size ≤ w3.heap.size := hb3.size
          have hA1 := own_addr hW1.own
          have hA' := own_addr hO3
          have hpl := hW1.lt
          clear hO hb hg3 hb3 hW1 hC1 hcx
          have hp3 := cell_of_row _ _ 0 _ _ (0, 0) hW3.hd
          have hf3 := frozen_of_row _ _ 0 _ _ hW3.hd
          simp only [List.getElem?_toArray, List.getElem?_cons_zero] at hp3
          have HZ := Lib.hid hl1
          have HZL : Hid ((xs ++ ys).length ≤ xs.length + 9 * t) := by show (xs ++ ys).length ≤ _; rw [List.length_append]; omega
          have hTK : xs ++ numsB (ns.take (t + 1)) = (xs ++ ys) ++ numB x := by rw [HTK.out, List.append_assoc]
          rw [HNX.out] at hTK
          have HTX := Lib.hid hTK
          clear hTK hl1
          generalize xs ++ ys = zs at *
          have hpl : pw < w1.heap.size := hpl
          have HFAR : Hid (∀ b off, A' = some ⟨b, off, none⟩ → b ≠ pw ∧ A1 ≠ some ⟨b, 0, none⟩) := by
            intro b off he
            rcases hA' with ⟨h1, _⟩ | ⟨g, h1, _, h2, h3⟩
            · rw [h1] at he; cases he
            · rw [h1] at he
              injection he with he
              injection he with he1 he2
              refine ⟨by omega, fun h4 => ?_⟩
              rcases hA1 with ⟨h5, _⟩ | ⟨g', h5, _, h6, h7⟩
              · rw [h5] at h4; cases h4
              · rw [h5] at h4; injection h4 with h4; injection h4 with h4; omega
          have hdw : ((d.length : Nat) : Int) = ((BitVec.ofNat 8 d.length).toNat : Int) := by rw [BitVec.toNat_ofNat]; omega
          have hbl := below1' w3 (.cells #[.int .u8 ((d.length : Nat) : Int)] 5)
          have hlit : At (w3.alloc (.cells #[.int .u8 ((d.length : Nat) : Int)] 5)) (some ⟨w3.heap.size, 0, none⟩) (bys [BitVec.ofNat 8 d.length]) := by
            have := at_new w3 #[.int .u8 ((d.length : Nat) : Int)] 5 (0, 0)
            rw [show bys [BitVec.ofNat 8 d.length] = [.int .u8 ((d.length : Nat) : Int)] by rw [hdw]; rfl]
            exact this
          have hAt4 := (own_at hO3).below hbl
          have hnil3 := own_nil hO3
          have hW4 := hW3.keep hbl
          have HC4 := Lib.hid (hC3.trans (Chg.ofBelow hbl pw A1))
          have hz4 : pw + 1 ≤ (w3.alloc (.cells #[.int .u8 ((d.length : Nat) : Int)] 5)).heap.size := by simp; omega
          have hzb : zs.length ≤ 200000000 := by have := HZL.out; omega
          have hO4 := hW4.own
          have HW4 := Lib.hid hW4
          have tk1 : True := trivial
          clear hdw hbl hW3 hW4 hC3 hO3 hA1 hA'
          go_wp2_with first
            | (at_builtin; clear tk1; refine app_bytes rfl (.tmp 30) (.tmp 34) rfl (pw + 1) (v := .slice A1 zs.length c1) rfl hO4 rfl (m := 1) (news := [BitVec.ofNat 8 d.length]) rfl hlit (by intro h; cases h) (by omega) hz4 ?_; intro A5 c5 w5 ho5 hb5 hg5 hc5; have hC5 := Chg.app (pw := pw) hO4 ho5 hg5; have hd5 := hC5.at hAt4 HFAR.out; have hp5 := (hb5.block pw (by omega)).trans HW4.out.hd; have hz5 := hb5.size; have HC5 := Lib.hid (HC4.out.trans hC5); clear hlit hAt4 hg5 hO4 hC5)
            | (at_builtin; refine app_bytes rfl (.tmp 35) (.tmp 36) rfl (pw + 1) (v := .slice A5 (zs.length + 1) c5) rfl ho5 rfl (m := d.length) (news := d.reverse) (by simp) hd5 hnil3 (by omega) (by omega) ?_; intro A6 c6 w6 ho6 hb6 hg6 hc6; have HC6 := Lib.hid (HC5.out.trans (Chg.app (pw := pw) ho5 ho6 hg6)); have hp6 := (hb6.block pw (by omega)).trans hp5; have hf6 := frozen_of_row _ _ 0 _ _ hp6; have hc6 := cell_of_row _ _ 0 _ _ (0, 0) hp6; simp only [List.getElem?_toArray, List.getElem?_cons_zero] at hc6; have HP6 := Lib.hid hp6; clear hp5 hp6 hd5 hg6)
          have hlen6 : (zs ++ BitVec.ofNat 8 d.length :: d.reverse).length = zs.length + 1 + d.length := by simp; omega
          rw [show zs ++ [BitVec.ofNat 8 d.length] ++ d.reverse = zs ++ BitVec.ofNat 8 d.length :: d.reverse by simp] at ho6
          have hWf : WrAt (w6.setCell ⟨pw, 0, none⟩ (.slice A6 (zs.length + 1 + d.length) c6)) pw A6 c6 (xs ++ numsB (ns.take (t + 1))) := by
            rw [HTX.out]
            refine ⟨?_, ?_⟩
            · rw [hlen6]; exact heap_setCell_same w6 pw 0 _ _ _ HP6.out
            · rw [hlen6]; exact ownsRow_setCell_below ho6 (show pw < pw + 1 by omega) _
          exact ⟨⟨t + 1, A6, c6, by omega, by go_num, hWf, HC6.out.trans (Chg.put _ _ _ _)⟩, by simp [intOf]; omega⟩
    · obtain rfl : ns.length = t := by omega
      rw [List.take_length] at hW1
      go_wp2_with fail
      go_end0
      exact ⟨rfl, A1, c1, hW1, hC1⟩

end Go.Proofs.Ytfcacplecapgfaa
