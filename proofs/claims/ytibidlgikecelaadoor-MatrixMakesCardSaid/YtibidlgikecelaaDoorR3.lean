/- Contracts: IndexFunc and ContainsFunc where nothing is found, reed.Encode. -/
import Derived.Test.YtibidlgikecelaaDoorR2
namespace Go.Proofs.YtibidlgikecelaaDoor
open Go.RowKit
set_option linter.unusedVariables false
set_option linter.unusedSimpArgs false

set_option maxHeartbeats 400000 in
set_option maxRecDepth 100000 in
theorem enc1_idx {w : World} {A : Option Addr} {n c : Nat} {p : Value} {vs : List Value} (hA : At w A vs) (hn : n = vs.length) (hmax : n ≤ 1000000)
    (HF : ∀ (i : Nat) v, vs[i]? = some v → Calls Tryd.prog 70 #[v, p] w fun e w' => e = .returned (.bool false) ∧ w = w') :
    Calls Tryd.prog 63 #[.slice A n c, .func (.func 70) #[] #[p]] w fun e w' => e = .returned (.int .i64 (-1)) ∧ w = w' := by
  subst hn
  go_enter Tryd.func63, Tryd.ntmps63
  go_wp2_with fail
  go_loop [8] (fun s8 => ∃ j : Nat, j ≤ vs.length ∧ s8 = .int .i64 ((j : Nat) : Int)) (fun s8 => vs.length - (intOf s8).toNat)
  case atStart => exact ⟨0, by omega, rfl⟩
  case round =>
    obtain ⟨j, hj, rfl⟩ := hrel
    by_cases hjl : j < vs.length
    · obtain ⟨b', o', rfl, hc⟩ := hA j _ (List.getElem?_eq_getElem hjl)
      have hC := Lib.hid (HF j _ (List.getElem?_eq_getElem hjl))
      have hji : (j : Int) < (vs.length : Int) := by omega
      generalize vs[j] = v at *
      go_wp2_with fail
      refine hC.out.mono ?_
      rintro e w' ⟨rfl, rfl⟩
      go_wp2_with fail
      exact ⟨⟨j + 1, by omega, by go_num⟩, by simp [intOf]; omega⟩
    · obtain rfl : j = vs.length := by omega
      go_wp2_with fail
      go_ret
      exact ⟨rfl, rfl⟩

set_option maxHeartbeats 400000 in
set_option maxRecDepth 100000 in
theorem enc1_has {w : World} {A : Option Addr} {n c : Nat} {p : Value} {vs : List Value} (hA : At w A vs) (hn : n = vs.length) (hmax : n ≤ 1000000)
    (HF : ∀ (i : Nat) v, vs[i]? = some v → Calls Tryd.prog 70 #[v, p] w fun e w' => e = .returned (.bool false) ∧ w = w') :
    Calls Tryd.prog 69 #[.slice A n c, .func (.func 70) #[] #[p]] w fun e w' => e = .returned (.bool false) ∧ w = w' := by
  subst hn
  have HC0 := enc1_idx (c := c) hA rfl hmax HF
  obtain ⟨r, hr⟩ : ∃ r : Int, -1 = r := ⟨_, rfl⟩
  rw [hr] at HC0
  have HC := Lib.hid HC0
  have HR := Lib.hid hr
  clear HF HC0 hr
  go_enter Tryd.func69, Tryd.ntmps69
  go_wp2_with fail
  refine HC.out.mono ?_
  rintro e w' ⟨rfl, rfl⟩
  go_wp2_with fail
  go_ret
  refine ⟨ret_bool ?_, rfl⟩
  rw [← HR.out]
  rfl

set_option maxHeartbeats 400000 in
theorem enc1_calls {w : World} {g b off n c lx cx l0 c0 : Nat} {X A0 : Option Addr} (hg : w.cell? ⟨g, 0, none⟩ = some (.slice (some ⟨b, off, none⟩) n c)) (h0 : w.cell? ⟨b, off, none⟩ = some (.slice A0 l0 c0)) (hn : 0 < n) :
    Calls Tryd.prog 70 #[.slice X lx cx, .pointer (some ⟨g, 0, none⟩)] w fun e w' => e = .returned (.bool ((lx : Int) != (l0 : Int))) ∧ w = w' := by
  have hni : (0 : Int) < (n : Int) := by omega
  go_enter Tryd.func70, Tryd.ntmps70
  go_wp2_with fail
  go_ret
  exact ⟨rfl, rfl⟩

/-- A call answers rows of its own, and OK. -/
def RetO (w : World) (r c : Nat) (M : Mx) (e : Ending) (w' : World) : Prop :=
  ∃ A cap blk, e = .returned (.tuple #[.slice A r cap, .int .i64 0]) ∧ OwnG w' w.heap.size A cap blk r c M ∧ Below w.heap.size w w'

set_option maxHeartbeats 800000 in
set_option maxRecDepth 100000 in
theorem encode_calls {w : World} {K M c cS : Nat} {S : Option Addr} {D : Mx} (hS : MatAt w S K c D) (hK : 1 ≤ K) (hKM : K + M ≤ 255) (hc : 0 < c) (hc2 : c ≤ 1000000) (hF : FoldAt w) :
    Calls Tryd.prog 30 #[.agg #[.int .i64 (K : Int), .int .i64 (M : Int)], .slice S K cS] w (RetO w (K + M) c (mulM K (genM K) D)) := by
  obtain ⟨vS, hS1, hS2⟩ := hS
  obtain ⟨bS, oS, rfl⟩ := some_of_at hS1 (by rw [hS2.1]; simp; omega)
  obtain ⟨S0, cS0, hS0, _, _, _⟩ := row_head hS1 hS2 hK
  rw [Nat.add_zero] at hS0
  have hKi : (0 : Int) < (K : Int) := by omega
  have hKn : ((K : Int) != (K : Int)) = false := by simp
  have hcn : ((c : Int) == (0 : Int)) = false := by simp; omega
  have hb1 := below1' w (.cells #[.int .i64 (K : Int), .int .i64 (M : Int)] 38)
  have hk0 : (w.alloc (.cells #[.int .i64 (K : Int), .int .i64 (M : Int)] 38)).cell? ⟨w.heap.size, 0, none⟩ = some (.int .i64 (K : Int)) := cell_of_row _ _ 0 _ _ (0, 0) (heap_alloc_new w _)
  have hk1 : (w.alloc (.cells #[.int .i64 (K : Int), .int .i64 (M : Int)] 38)).cell? ⟨w.heap.size, 1, none⟩ = some (.int .i64 (M : Int)) := cell_of_row _ _ 1 _ _ (0, 0) (heap_alloc_new w _)
  have hs1 : (w.alloc (.cells #[.int .i64 (K : Int), .int .i64 (M : Int)] 38)).heap.size = w.heap.size + 1 := by simp
  go_enter Tryd.func30, Tryd.ntmps30
  go_wp2_with fail
  generalize w.alloc (.cells #[.int .i64 (K : Int), .int .i64 (M : Int)] 38) = wa at *
  have hb2 := below1' wa (.cells #[.slice (some ⟨bS, oS, none⟩) K cS] 24)
  have hbox := box_cell wa (.slice (some ⟨bS, oS, none⟩) K cS) 24
  have hk0b := (hb2.cell (p := ⟨w.heap.size, 0, none⟩) (by simp; omega)).trans hk0
  have hk1b := (hb2.cell (p := ⟨w.heap.size, 1, none⟩) (by simp; omega)).trans hk1
  have hB2 := hb1.trans (hb2.mono hb1.size)
  have hs2 : (wa.alloc (.cells #[.slice (some ⟨bS, oS, none⟩) K cS] 24)).heap.size = w.heap.size + 2 := by simp; omega
  rw [hs1] at hbox
  generalize wa.alloc (.cells #[.slice (some ⟨bS, oS, none⟩) K cS] 24) = wb at *
  clear hk0 hk1 hb1 hb2
  refine (can_calls hK hKM).mono ?_
  rintro e w3 ⟨rfl, hb3⟩
  have hB3 := hB2.trans (hb3.mono hB2.size)
  have hk03 := (hb3.cell (p := ⟨w.heap.size, 0, none⟩) (by simp; omega)).trans hk0b
  have hk13 := (hb3.cell (p := ⟨w.heap.size, 1, none⟩) (by simp; omega)).trans hk1b
  have hbox3 := (hb3.cell (p := ⟨w.heap.size + 1, 0, none⟩) (by simp; omega)).trans hbox
  have hS03 := (hB3.cell (p := ⟨bS, oS, none⟩) (block_lt hS0)).trans hS0
  have hz3 := hb3.size
  have hHas := Lib.hid (enc1_has (n := K) (c := cS) (p := .pointer (some ⟨w.heap.size + 1, 0, none⟩)) (hS1.below hB3) (by rw [hS2.1]; simp) (by omega) (fun i v hv => by
    have hi : i < K := by
      have := (List.getElem?_eq_some_iff.1 hv).1
      rw [hS2.1] at this
      simpa using this
    obtain ⟨X, cx, rfl, _⟩ := hS2.2 i v _ hv (rowsL_get hi)
    have h := enc1_calls (X := X) (cx := cx) (lx := (rowL c (D i)).length) hbox3 hS03 (by omega)
    rwa [show (((rowL c (D i)).length : Int) != (c : Int)) = false by simp] at h))
  have hvl : vS.length = K := by rw [hS2.1]; simp
  clear hk0b hk1b hbox hS0
  go_wp2_with fail
  refine hHas.out.mono ?_
  rintro e w' ⟨rfl, rfl⟩
  go_wp2_with fail
  refine (gener_calls hK hKM (FoldAt.below hF hB3)).mono ?_
  rintro e w4 ⟨g, blk, rfl, hG, hb4⟩
  have hB4 := hB3.trans (hb4.mono hB3.size)
  have hbox4 := (hb4.cell (p := ⟨w.heap.size + 1, 0, none⟩) (by simp; omega)).trans hbox3
  have HT := Lib.hid (times_calls (cS := cS) (cA := K + M) (show MatAt w4 (some ⟨bS, oS, none⟩) K c D from ⟨vS, hS1.below hB4, hS2.below hB4⟩) (hG.mat (by omega)) hK (by omega) hc2 (by omega) (FoldAt.below hF hB4))
  clear hHas hG
  go_wp2_with fail
  refine HT.out.mono ?_
  rintro e w5 ⟨A5, c5, b5, rfl, hG5, hb5⟩
  go_wp2_with fail
  go_ret2
  exact ⟨A5, c5, b5, rfl, hG5.lower hB4.size, hB4.trans (hb5.mono hB4.size)⟩

end Go.Proofs.YtibidlgikecelaaDoor
