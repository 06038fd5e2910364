/- Contracts: whether one of some things is of a kind; reed.Encode of anything. -/
import Derived.Test.YtibidlgikecelaaDoorT11
import Derived.Test.YtibidlgikecelaaDoorR6
namespace Go.Proofs.YtibidlgikecelaaDoor
open Go.RowKit
set_option linter.unusedVariables false
set_option linter.unusedSimpArgs false

/-- Whether one of the first n is. -/
def anyB (b : Nat → Bool) (n : Nat) : Bool := (List.range n).any b
/-- The first that is, and -1 where there is none. -/
def firstZ (b : Nat → Bool) (n : Nat) : Int := match (List.range n).find? b with | some k => (k : Int) | none => -1
theorem firstZ_any (b : Nat → Bool) (n : Nat) : decide (0 ≤ firstZ b n) = anyB b n := by
  unfold firstZ anyB
  cases h : (List.range n).find? b with
  | none =>
    have : (List.range n).any b = false := by
      rw [List.any_eq_false]
      intro x hx
      have := (List.find?_eq_none.1 h) x hx
      exact this
    rw [this]; rfl
  | some k =>
    have : (List.range n).any b = true := by
      rw [List.any_eq_true]
      exact ⟨k, List.mem_of_find?_eq_some h, List.find?_some h⟩
    rw [this]
    simp
theorem find_range {b : Nat → Bool} : ∀ (n : Nat) {k : Nat}, k < n → b k = true → (∀ i, i < k → b i = false) → (List.range n).find? b = some k
  | 0, k, h, _, _ => by omega
  | n + 1, k, h, hk, hl => by
    rw [List.range_succ, List.find?_append]
    by_cases hkn : k < n
    · rw [find_range n hkn hk hl]; rfl
    · obtain rfl : k = n := by omega
      have : (List.range k).find? b = none := by
        rw [List.find?_eq_none]
        intro x hx
        simp [hl x (List.mem_range.1 hx)]
      rw [this]
      simp [hk]
theorem firstZ_at {b : Nat → Bool} {n k : Nat} (h : k < n) (hk : b k = true) (hl : ∀ i, i < k → b i = false) : firstZ b n = (k : Int) := by
  unfold firstZ
  rw [find_range n h hk hl]
theorem firstZ_no {b : Nat → Bool} {n : Nat} (h : ∀ i, i < n → b i = false) : firstZ b n = -1 := by
  unfold firstZ
  have : (List.range n).find? b = none := by
    rw [List.find?_eq_none]
    intro x hx
    simp [h x (List.mem_range.1 hx)]
  rw [this]
theorem anyB_false {b : Nat → Bool} {n : Nat} : anyB b n = false ↔ ∀ i, i < n → b i = false := by
  unfold anyB
  rw [List.any_eq_false]
  constructor
  · intro h i hi
    have := h i (List.mem_range.2 hi)
    simpa using this
  · intro h x hx
    simp [h x (List.mem_range.1 hx)]

set_option maxHeartbeats 800000 in
set_option maxRecDepth 100000 in
theorem encg_gidx {w : World} {A : Option Addr} {n c : Nat} {p q : Value} {vs : List Value} {b : Nat → Bool} (hA : At w A vs) (hn : n = vs.length) (hmax : n ≤ 140737488355328)
    (HF : ∀ wq : World, Below w.heap.size w wq → ∀ (i : Nat) v, vs[i]? = some v → Calls Tryd.prog 70 #[v, p] wq fun e w' => e = .returned (.bool (b i)) ∧ Below wq.heap.size wq w') :
    Calls Tryd.prog 63 #[.slice A n c, .func (.func 70) #[] #[p]] w fun e w' => e = .returned (.int .i64 (firstZ b n)) ∧ Below w.heap.size w w' := by
  subst hn
  generalize hr : firstZ b vs.length = r
  have HR := Lib.hid hr
  clear hr
  go_enter Tryd.func63, Tryd.ntmps63
  go_wp2_with fail
  go_loopw [8] (fun s8 wr => ∃ j : Nat, j ≤ vs.length ∧ s8 = .int .i64 ((j : Nat) : Int) ∧ Below w.heap.size w wr ∧ Hid (∀ i, i < j → b i = false)) (fun s8 _ => vs.length - (intOf s8).toNat)
  case atStart => exact ⟨0, by omega, rfl, Below.refl _ _, fun i hi => by omega⟩
  case round =>
    obtain ⟨j, hj, rfl, hb, HALL⟩ := hrel
    by_cases hjl : j < vs.length
    · obtain ⟨b', o', rfl, hc⟩ := (hA.below hb) j _ (List.getElem?_eq_getElem hjl)
      have hC := Lib.hid (HF wr hb j _ (List.getElem?_eq_getElem hjl))
      have hji : (j : Int) < (vs.length : Int) := by omega
      generalize vs[j] = v at *
      cases hbj : b j with
      | false =>
        rw [hbj] at hC
        have HJ := Lib.hid hbj
        clear hbj
        go_wp2_with fail
        refine hC.out.mono ?_
        rintro e w' ⟨rfl, hb'⟩
        go_wp2_with fail
        refine ⟨⟨j + 1, by omega, by go_num, hb.trans (hb'.mono hb.size), fun i hi => ?_⟩, by simp [intOf]; omega⟩
        by_cases hij : i < j
        · exact HALL.out i hij
        · obtain rfl : i = j := by omega
          exact HJ.out
      | true =>
        rw [hbj] at hC
        have HJ := Lib.hid hbj
        clear hbj
        go_wp2_with fail
        refine hC.out.mono ?_
        rintro e w' ⟨rfl, hb'⟩
        go_wp2_with fail
        go_ret
        refine ⟨ret_int ?_, hb.trans (hb'.mono hb.size)⟩
        rw [← HR.out]
        exact (firstZ_at hjl HJ.out HALL.out).symm
    · obtain rfl : j = vs.length := by omega
      go_wp2_with fail
      go_ret
      refine ⟨ret_int ?_, hb⟩
      rw [← HR.out]
      exact (firstZ_no HALL.out).symm

set_option maxHeartbeats 800000 in
set_option maxRecDepth 100000 in
theorem encg_ghas {w : World} {A : Option Addr} {n c : Nat} {p q : Value} {vs : List Value} {b : Nat → Bool} (hA : At w A vs) (hn : n = vs.length) (hmax : n ≤ 140737488355328)
    (HF : ∀ wq : World, Below w.heap.size w wq → ∀ (i : Nat) v, vs[i]? = some v → Calls Tryd.prog 70 #[v, p] wq fun e w' => e = .returned (.bool (b i)) ∧ Below wq.heap.size wq w') :
    Calls Tryd.prog 69 #[.slice A n c, .func (.func 70) #[] #[p]] w (RetV w (.bool (anyB b n))) := by
  have HC0 := encg_gidx (c := c) (p := p) (q := q) hA hn hmax HF
  rw [← firstZ_any]
  generalize firstZ b n = r at *
  have HC := Lib.hid HC0
  clear HF HC0 hn
  go_enter Tryd.func69, Tryd.ntmps69
  go_wp2_with fail
  refine HC.out.mono ?_
  rintro e w' ⟨rfl, hb⟩
  go_wp2_with fail
  go_ret
  exact ⟨rfl, hb⟩

/-- The rows that Encode answers, and its error. -/
def codeB (K M : Int) : Prop := 1 ≤ K ∧ 0 ≤ M ∧ K ≤ 255 ∧ M ≤ 255 - K
/-- Data that may be: as many as the code says, of one length. -/
def dataB (K M : Int) (L : List (List B8)) : Prop := codeB K M ∧ (L.length : Int) = K ∧ 0 < widL L ∧ ∀ l, l ∈ L → l.length = widL L
open Classical in
noncomputable def encL (K M : Int) (L : List (List B8)) : List (List B8) := if dataB K M L then rowsL (L.length + M.toNat) (widL L) (mulM L.length (genM L.length) (mxOf L)) else []
open Classical in
noncomputable def encE (K M : Int) (L : List (List B8)) : Int := if dataB K M L then 0 else 1
theorem encL_len (K M : Int) (L : List (List B8)) : (encL K M L).length ≤ 255 := by
  unfold encL
  split
  · rename_i h
    obtain ⟨⟨h1, h2, h3, h4⟩, h5, _⟩ := h
    rw [length_rowsL]; omega
  · simp
/-- A call answers rows of its own and OK, or nothing and why. -/
def RetOw (w : World) (LL : List (List B8)) (err : Int) (e : Ending) (w' : World) : Prop :=
  (∃ k, RetE w k e w' ∧ LL = [] ∧ err = k) ∨ ∃ r c M, r ≤ 1000 ∧ c ≤ 1000 ∧ LL = rowsL r c M ∧ err = 0 ∧ RetO w r c M e w'
theorem RetOw.no {w : World} {k : Int} {e : Ending} {w' : World} (h : RetE w k e w') : RetOw w [] k e w' := .inl ⟨k, h, rfl, rfl⟩

theorem not_codeB {K M : Int} (h : ¬ codeB K M) : K < 1 ∨ M < 0 ∨ 255 < K ∨ 255 - K < M := by
  unfold codeB at h
  omega
/-- The first boxes of Encode. -/
theorem enc_boxes (w : World) (K M : Int) (v : Value) : ∃ wb, wb = (w.alloc (.cells #[.int .i64 K, .int .i64 M] 38)).alloc (.cells #[v] 24) ∧ Below w.heap.size w wb ∧ wb.cell? ⟨w.heap.size, 0, none⟩ = some (.int .i64 K) ∧ wb.cell? ⟨w.heap.size, 1, none⟩ = some (.int .i64 M) ∧
    wb.cell? ⟨w.heap.size + 1, 0, none⟩ = some v ∧ wb.heap.size = w.heap.size + 2 := by
  refine ⟨_, rfl, ?_⟩
  have hb1 := below1' w (.cells #[.int .i64 K, .int .i64 M] 38)
  have hk0 : (w.alloc (.cells #[.int .i64 K, .int .i64 M] 38)).cell? ⟨w.heap.size, 0, none⟩ = some (.int .i64 K) := cell_of_row _ _ 0 _ _ (0, 0) (heap_alloc_new w _)
  have hk1 : (w.alloc (.cells #[.int .i64 K, .int .i64 M] 38)).cell? ⟨w.heap.size, 1, none⟩ = some (.int .i64 M) := cell_of_row _ _ 1 _ _ (0, 0) (heap_alloc_new w _)
  have hs1 : (w.alloc (.cells #[.int .i64 K, .int .i64 M] 38)).heap.size = w.heap.size + 1 := by simp
  generalize w.alloc (.cells #[.int .i64 K, .int .i64 M] 38) = wa at *
  have hb2 := below1' wa (.cells #[v] 24)
  have hbox := box_cell wa v 24
  rw [hs1] at hbox
  exact ⟨hb1.trans (hb2.mono hb1.size), (hb2.cell (p := ⟨w.heap.size, 0, none⟩) (by simp; omega)).trans hk0, (hb2.cell (p := ⟨w.heap.size, 1, none⟩) (by simp; omega)).trans hk1, hbox, by simp; omega⟩

set_option maxHeartbeats 2000000 in
set_option maxRecDepth 100000 in
theorem encode_bad {w : World} {K M : Int} {N cS : Nat} {S : Option Addr} {vs : List Value} {L : List (List B8)} (hS : At w S vs) (hL : Texts w vs L) (hN : N = L.length) (hmax : N ≤ 5864062014634) (h : ¬ dataB K M L) :
    Calls Tryd.prog 30 #[.agg #[.int .i64 K, .int .i64 M], .slice S N cS] w (RetE w 1) := by
  obtain ⟨wb, hwb, hB2, hk0, hk1, hbox, hsz⟩ := enc_boxes w K M (.slice S N cS)
  have HWB := Lib.hid hwb
  clear hwb
  by_cases hc : codeB K M
  · have hcc := hc
    obtain ⟨c1, c2, c3, c4⟩ := hc
    obtain ⟨K, rfl⟩ := Int.eq_ofNat_of_zero_le (by omega : 0 ≤ K)
    obtain ⟨M, rfl⟩ := Int.eq_ofNat_of_zero_le (by omega : 0 ≤ M)
    have HCAN := Lib.hid (can_calls (w := wb) (K := K) (M := M) (by omega) (by omega))
    by_cases hNK : N = K
    · subst hNK
      have hneq : ((N : Int) != (N : Int)) = false := by simp
      have h0 : L[0]? = some L[0] := List.getElem?_eq_getElem (by omega)
      have hw : widL L = L[0].length := by unfold widL; rw [List.getD_eq_getElem?_getD, h0]; rfl
      obtain ⟨b, off, rfl, hbl⟩ := heads_some hS hL (by omega)
      generalize L[0] = l0 at *
      obtain ⟨X, cx, hcx, _, _, _⟩ := head_at hS hL h0
      rw [Nat.add_zero] at hcx
      have hNi : (0 : Int) < (N : Int) := by omega
      by_cases hz : l0.length = 0
      · have hz0 : ((l0.length : Int) == 0) = true := beq_iff_eq.2 (by omega)
        clear h hcc hw h0 hS hL hN hz
        go_enter Tryd.func30, Tryd.ntmps30
        go_wp2_with fail
        have hwb := HWB.out
        rw [← hwb]
        clear hwb
        refine HCAN.out.mono ?_
        rintro e w3 ⟨rfl, hb3⟩
        have hB3 := hB2.trans (hb3.mono hB2.size)
        have hk03 := (hb3.cell (p := ⟨w.heap.size, 0, none⟩) (block_lt hk0)).trans hk0
        have hk13 := (hb3.cell (p := ⟨w.heap.size, 1, none⟩) (block_lt hk1)).trans hk1
        have hbox3 := (hb3.cell (p := ⟨w.heap.size + 1, 0, none⟩) (block_lt hbox)).trans hbox
        have hc3 := (hB3.cell (p := ⟨b, off, none⟩) hbl).trans hcx
        clear hk0 hk1 hbox hcx
        go_wp2_with fail
        go_ret2
        exact ⟨rfl, hB3⟩
      · have hz0 : ((l0.length : Int) == 0) = false := beq_eq_false_iff_ne.2 (by omega)
        have hany : anyB (fun i => (((L.getD i []).length : Nat) : Int) != (l0.length : Int)) N = true := by
          cases ha : anyB (fun i => (((L.getD i []).length : Nat) : Int) != (l0.length : Int)) N with
          | true => rfl
          | false =>
            exfalso
            rw [anyB_false] at ha
            refine h ⟨hcc, by omega, by omega, fun l hl => ?_⟩
            obtain ⟨i, hi, rfl⟩ := List.getElem_of_mem hl
            have := ha i (by omega)
            rw [List.getD_eq_getElem?_getD, List.getElem?_eq_getElem hi] at this
            simp only [Option.getD_some] at this
            have h2 : ((L[i].length : Nat) : Int) = (l0.length : Int) := by simpa using this
            omega
        have hvl : vs.length = N := by rw [hL.1]; omega
        have HHAS := Lib.hid (fun (w3 : World) (hB3 : Below w.heap.size w w3) (hb3 : w3.cell? ⟨w.heap.size + 1, 0, none⟩ = some (.slice (some ⟨b, off, none⟩) N cS)) =>
          encg_ghas (n := N) (c := cS) (p := .pointer (some ⟨w.heap.size + 1, 0, none⟩)) (q := .bool true) (b := fun i => (((L.getD i []).length : Nat) : Int) != (l0.length : Int)) (hS.below hB3) hvl.symm (by omega) (fun wq hq i v hv => by
            have hi : i < L.length := by have := (List.getElem?_eq_some_iff.1 hv).1; omega
            have hli := List.getElem?_eq_getElem hi
            obtain ⟨Y, cy, rfl, _⟩ := hL.2 i v _ hv hli
            have hBq := hB3.trans (hq.mono hB3.size)
            have hcc := enc1_calls (X := Y) (cx := cy) (lx := (L[i]).length) ((hq.cell (p := ⟨w.heap.size + 1, 0, none⟩) (block_lt hb3)).trans hb3) ((hBq.cell (p := ⟨b, off, none⟩) hbl).trans hcx) (by omega)
            refine hcc.mono fun e w' ⟨h1, h2⟩ => ⟨?_, h2 ▸ Below.refl _ _⟩
            rw [h1, List.getD_eq_getElem?_getD, hli]
            rfl))
        rw [hany] at HHAS
        clear h hcc hw h0 hS hL hN hz hany hvl
        go_enter Tryd.func30, Tryd.ntmps30
        go_wp2_with fail
        have hwb := HWB.out
        rw [← hwb]
        clear hwb
        refine HCAN.out.mono ?_
        rintro e w3 ⟨rfl, hb3⟩
        have hB3 := hB2.trans (hb3.mono hB2.size)
        have hk03 := (hb3.cell (p := ⟨w.heap.size, 0, none⟩) (block_lt hk0)).trans hk0
        have hk13 := (hb3.cell (p := ⟨w.heap.size, 1, none⟩) (block_lt hk1)).trans hk1
        have hbox3 := (hb3.cell (p := ⟨w.heap.size + 1, 0, none⟩) (block_lt hbox)).trans hbox
        have hc3 := (hB3.cell (p := ⟨b, off, none⟩) hbl).trans hcx
        have HH := Lib.hid (HHAS.out w3 hB3 hbox3)
        clear hk0 hk1 hbox hcx HHAS
        go_wp2_with fail
        refine HH.out.mono ?_
        rintro e w4 ⟨rfl, hb4⟩
        go_wp2_with fail
        go_ret2
        exact ⟨rfl, hB3.trans (hb4.mono hB3.size)⟩
    · have hneq : ((N : Int) != (K : Int)) = true := by simp; omega
      clear h hcc hNK hS hL hN
      go_enter Tryd.func30, Tryd.ntmps30
      go_wp2_with fail
      have hwb := HWB.out
      rw [← hwb]
      clear hwb
      refine HCAN.out.mono ?_
      rintro e w3 ⟨rfl, hb3⟩
      have hB3 := hB2.trans (hb3.mono hB2.size)
      have hk03 := (hb3.cell (p := ⟨w.heap.size, 0, none⟩) (block_lt hk0)).trans hk0
      have hbox3 := (hb3.cell (p := ⟨w.heap.size + 1, 0, none⟩) (block_lt hbox)).trans hbox
      clear hk0 hk1 hbox
      go_wp2_with fail
      go_ret2
      exact ⟨rfl, hB3⟩
  · have HCAN := Lib.hid (can_bad (w := wb) (not_codeB hc))
    clear h hc hS hL hN
    go_enter Tryd.func30, Tryd.ntmps30
    go_wp2_with fail
    have hwb := HWB.out
    rw [← hwb]
    clear hwb
    refine HCAN.out.mono ?_
    rintro e w3 ⟨rfl, hb3⟩
    go_wp2_with fail
    go_ret2
    exact ⟨rfl, hB2.trans (hb3.mono hB2.size)⟩

theorem encode_x {w : World} {K M : Int} {N cS : Nat} {S : Option Addr} {L : List (List B8)} (hS : LAt w S L) (hN : N = L.length) (hmax : N ≤ 5864062014634) (hwid : widL L ≤ 1000) (hF : FoldAt w) :
    Calls Tryd.prog 30 #[.agg #[.int .i64 K, .int .i64 M], .slice S N cS] w (RetOw w (encL K M L) (encE K M L)) := by
  unfold encL encE
  by_cases h : dataB K M L
  · rw [if_pos h, if_pos h]
    obtain ⟨⟨c1, c2, c3, c4⟩, h2, h3, h4⟩ := h
    obtain ⟨M, rfl⟩ := Int.eq_ofNat_of_zero_le (by omega : 0 ≤ M)
    subst hN
    rw [← h2]
    exact (encode_calls (hS.mat rfl h4) (by omega) (by omega) h3 (by omega) hF).mono fun e w' hh => .inr ⟨L.length + M, widL L, mulM L.length (genM L.length) (mxOf L), by omega, hwid, by simp, rfl, hh⟩
  · rw [if_neg h, if_neg h]
    obtain ⟨vs, h1, h2⟩ := hS
    exact (encode_bad h1 h2 hN hmax h).mono fun e w' hh => .no hh

end Go.Proofs.YtibidlgikecelaaDoor
