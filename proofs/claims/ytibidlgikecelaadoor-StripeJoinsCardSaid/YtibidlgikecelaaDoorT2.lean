/- Contracts: rows or an error; the law MatrixMakes. -/
import Derived.Test.YtibidlgikecelaaDoorT1
namespace Go.Proofs.YtibidlgikecelaaDoor
open Go.RowKit
set_option linter.unusedVariables false
set_option linter.unusedSimpArgs false

/-- A call answers rows, and an error's number. -/
def RetX (w : World) (LL : List (List B8)) (err : Int) (e : Ending) (w' : World) : Prop :=
  ∃ A cap vs, e = .returned (.tuple #[.slice A LL.length cap, .int .i64 err]) ∧ At w' A vs ∧ Texts w' vs LL ∧ Below w.heap.size w w'
theorem RetM.x {w : World} {r c : Nat} {M : Mx} {e : Ending} {w' : World} (h : RetM w r c M e w') (hc : c ≤ 1000) : RetX w (rowsL r c M) 0 e w' := by
  obtain ⟨g, blk, he, hG, hb⟩ := h
  obtain ⟨vs, h1, h2⟩ := hG.mat hc
  exact ⟨_, r, vs, by rw [he]; simp, h1, h2, hb⟩
theorem RetO.x {w : World} {r c : Nat} {M : Mx} {e : Ending} {w' : World} (h : RetO w r c M e w') (hc : c ≤ 1000) : RetX w (rowsL r c M) 0 e w' := by
  obtain ⟨A, cap, blk, he, hG, hb⟩ := h
  obtain ⟨vs, h1, h2⟩ := hG.mat hc
  exact ⟨A, cap, vs, by rw [he]; simp, h1, h2, hb⟩
theorem RetE.x {w : World} {k : Int} {e : Ending} {w' : World} (h : RetE w k e w') : RetX w [] k e w' :=
  ⟨none, 0, [], h.1, At.nil _ _, Texts.nil _, h.2⟩
theorem RetX.same {w : World} {A B : Option Addr} {a b : Nat} {vA vB : List Value} {L : List (List B8)} (hA : At w A vA) (hLA : Texts w vA L) (hB : At w B vB) (hLB : Texts w vB L) (hmax : L.length ≤ 1000) :
    Calls Tryd.prog 26 #[.slice A L.length a, .slice B L.length b] w fun e w' => e = .returned (.bool true) ∧ w = w' := by
  have := sametexts_calls (n := L.length) (m := L.length) (a := a) (b := b) hA hLA hB hLB rfl rfl (by omega)
  rwa [decide_eq_true rfl] at this

def idL (n : Int) : List (List B8) := if 1 ≤ n ∧ n ≤ 255 then rowsL n.toNat n.toNat oneM else []
def idE (n : Int) : Int := if 1 ≤ n ∧ n ≤ 255 then 0 else 1
theorem idL_len (n : Int) : (idL n).length ≤ 255 := by unfold idL; split <;> simp; omega
theorem ident_x {w : World} (n : Int) : Calls Tryd.prog 25 #[.int .i64 n] w (RetX w (idL n) (idE n)) := by
  unfold idL idE
  by_cases h : 1 ≤ n ∧ n ≤ 255
  · rw [if_pos h, if_pos h]
    obtain ⟨m, rfl⟩ := Int.eq_ofNat_of_zero_le (by omega : 0 ≤ n)
    exact (ident_calls (by omega) (by omega)).mono fun e w' h => RetM.x h (by simp; omega)
  · rw [if_neg h, if_neg h]
    exact (ident_bad (by omega)).mono fun e w' h => RetE.x h
theorem rident_x {w : World} (n : Int) : Calls Tryd.prog 43 #[.int .i64 n] w (RetX w (idL n) (idE n)) := by
  unfold idL idE
  by_cases h : 1 ≤ n ∧ n ≤ 255
  · rw [if_pos h, if_pos h]
    obtain ⟨m, rfl⟩ := Int.eq_ofNat_of_zero_le (by omega : 0 ≤ n)
    exact (rident_calls (by omega) (by omega)).mono fun e w' h => RetO.x h (by simp; omega)
  · rw [if_neg h, if_neg h]
    exact (rident_bad (by omega)).mono fun e w' h => RetE.x h
def genL (K M : Int) : List (List B8) := if K < 1 ∨ M < 0 ∨ 255 < K ∨ 255 - K < M then [] else rowsL (K.toNat + M.toNat) K.toNat (genM K.toNat)
def genE (K M : Int) : Int := if K < 1 ∨ M < 0 ∨ 255 < K ∨ 255 - K < M then 1 else 0
theorem genL_len (K M : Int) : (genL K M).length ≤ 255 := by unfold genL; split <;> simp; omega
theorem gener_x {w : World} (K M : Int) (hF : FoldAt w) : Calls Tryd.prog 31 #[.agg #[.int .i64 K, .int .i64 M]] w (RetX w (genL K M) (genE K M)) := by
  unfold genL genE
  by_cases h : K < 1 ∨ M < 0 ∨ 255 < K ∨ 255 - K < M
  · rw [if_pos h, if_pos h]
    exact (gener_bad h).mono fun e w' h => RetE.x h
  · rw [if_neg h, if_neg h]
    obtain ⟨m, rfl⟩ := Int.eq_ofNat_of_zero_le (by omega : 0 ≤ K)
    obtain ⟨k, rfl⟩ := Int.eq_ofNat_of_zero_le (by omega : 0 ≤ M)
    exact (gener_calls (by omega) (by omega) hF).mono fun e w' h => RetM.x h (by simp; omega)
theorem rgener_x {w : World} (K M : Int) : Calls Tryd.prog 44 #[.agg #[.int .i64 K, .int .i64 M]] w (RetX w (genL K M) (genE K M)) := by
  unfold genL genE
  by_cases h : K < 1 ∨ M < 0 ∨ 255 < K ∨ 255 - K < M
  · rw [if_pos h, if_pos h]
    exact (rgener_bad h).mono fun e w' h => RetE.x h
  · rw [if_neg h, if_neg h]
    obtain ⟨m, rfl⟩ := Int.eq_ofNat_of_zero_le (by omega : 0 ≤ K)
    obtain ⟨k, rfl⟩ := Int.eq_ofNat_of_zero_le (by omega : 0 ≤ M)
    exact (rgener_calls (by omega) (by omega)).mono fun e w' h => RetO.x h (by simp; omega)

set_option maxHeartbeats 800000 in
set_option maxRecDepth 100000 in
theorem awake_calls {w : World} (hF : FoldAt w) : Calls Tryd.prog 42 #[] w (RetV w (.bool true)) := by
  obtain ⟨R, hR, hE⟩ := inv_of_left (n := 2) (A := oneM) (B := oneM) (fun i j hi hj => one_mulM _ hi)
  have HI := fun (W : World) => Lib.hid (ident_calls (w := W) (n := 2) (by decide) (by decide))
  go_enter Tryd.func42, Tryd.ntmps42
  go_wp2_with fail
  refine (HI _).out.mono ?_
  rintro e w1 ⟨g, blk, rfl, hG, hb1⟩
  have hM1 := hG.mat (by omega)
  have HV := Lib.hid (invert_mat (cA := 2) hM1 (by omega) (FoldAt.below hF hb1))
  rw [hR] at HV
  clear hG hR
  go_wp2_with fail
  refine HV.out.mono ?_
  rintro e w2 ⟨g2, blk2, rfl, hG2, hb2⟩
  have HS := Lib.hid (same_mat (a := 2) (b := 2) (hM1.below hb2) (hG2.mat (by omega)) (fun i j hi hj => (hE i j hi hj).symm) (by omega))
  have hB2 := hb1.trans (hb2.mono hb1.size)
  clear HV hM1 hG2
  go_wp2_with fail
  refine HS.out.mono ?_
  rintro e w' ⟨rfl, rfl⟩
  go_wp2_with fail
  go_ret
  exact ⟨rfl, hB2⟩

set_option maxHeartbeats 1000000 in
set_option maxRecDepth 100000 in
theorem matrixMakes_calls {w : World} {n K M : Int} (hF : FoldAt w) : Calls Tryd.prog 11 #[.int .i64 n, .agg #[.int .i64 K, .int .i64 M]] w (RetV w (.bool true)) := by
  have hb1 := below1' w (.cells #[.int .i64 K, .int .i64 M] 38)
  have hk0 : (w.alloc (.cells #[.int .i64 K, .int .i64 M] 38)).cell? ⟨w.heap.size, 0, none⟩ = some (.int .i64 K) := cell_of_row _ _ 0 _ _ (0, 0) (heap_alloc_new w _)
  have hk1 : (w.alloc (.cells #[.int .i64 K, .int .i64 M] 38)).cell? ⟨w.heap.size, 1, none⟩ = some (.int .i64 M) := cell_of_row _ _ 1 _ _ (0, 0) (heap_alloc_new w _)
  go_enter Tryd.func11, Tryd.ntmps11
  go_wp2_with fail
  all_goals
    clear h
    generalize w.alloc (.cells #[.int .i64 K, .int .i64 M] 38) = w0 at *
    refine (ident_x _).mono ?_
    rintro e w1 ⟨A1, c1, v1, rfl, hA1, hT1, hb2⟩
    have hB1 := hb1.trans (hb2.mono hb1.size)
    have hk01 := (hb2.cell (p := ⟨w.heap.size, 0, none⟩) (block_lt hk0)).trans hk0
    have hk11 := (hb2.cell (p := ⟨w.heap.size, 1, none⟩) (block_lt hk1)).trans hk1
    clear hk0 hk1 hb1 hb2
    go_wp2_with fail
    refine (rident_x _).mono ?_
    rintro e w2 ⟨A2, c2, v2, rfl, hA2, hT2, hb2⟩
    have hB2 := hB1.trans (hb2.mono hB1.size)
    have hk02 := (hb2.cell (p := ⟨w.heap.size, 0, none⟩) (block_lt hk01)).trans hk01
    have hk12 := (hb2.cell (p := ⟨w.heap.size, 1, none⟩) (block_lt hk11)).trans hk11
    replace hA1 := hA1.below hb2
    replace hT1 := hT1.below hb2
    clear hk01 hk11 hb2 hB1
    go_wp2_with fail
    refine (gener_x K M (FoldAt.below hF hB2)).mono ?_
    rintro e w3 ⟨A3, c3, v3, rfl, hA3, hT3, hb3⟩
    have hB3 := hB2.trans (hb3.mono hB2.size)
    have hk03 := (hb3.cell (p := ⟨w.heap.size, 0, none⟩) (block_lt hk02)).trans hk02
    have hk13 := (hb3.cell (p := ⟨w.heap.size, 1, none⟩) (block_lt hk12)).trans hk12
    replace hA1 := hA1.below hb3
    replace hT1 := hT1.below hb3
    replace hA2 := hA2.below hb3
    replace hT2 := hT2.below hb3
    clear hk02 hk12 hb3 hB2
    go_wp2_with fail
    refine (rgener_x K M).mono ?_
    rintro e w4 ⟨A4, c4, v4, rfl, hA4, hT4, hb4⟩
    have hB4 := hB3.trans (hb4.mono hB3.size)
    have HS1 := Lib.hid (RetX.same (a := c1) (b := c2) (hA1.below hb4) (hT1.below hb4) (hA2.below hb4) (hT2.below hb4) (Nat.le_trans (idL_len _) (by omega)))
    have HS2 := Lib.hid (RetX.same (a := c3) (b := c4) (hA3.below hb4) (hT3.below hb4) hA4 hT4 (Nat.le_trans (genL_len _ _) (by omega)))
    have HAW := Lib.hid (awake_calls (FoldAt.below hF hB4))
    clear hA1 hT1 hA2 hT2 hA3 hT3 hA4 hT4 hb4 hB3 hk03 hk13
    generalize (idL _).length = q1 at *
    generalize (genL _ _).length = q2 at *
    generalize idE _ = e1 at *
    generalize genE _ _ = e2 at *
    have hee1 : (e1 == e1) = true := by simp
    have hee2 : (e2 == e2) = true := by simp
    go_wp2_with fail
    refine HS1.out.mono ?_
    rintro e w' ⟨rfl, rfl⟩
    go_wp2_with fail
    refine HS2.out.mono ?_
    rintro e w' ⟨rfl, rfl⟩
    go_wp2_with fail
    refine HAW.out.mono ?_
    rintro e w5 ⟨rfl, hb5⟩
    go_wp2_with fail
    go_ret
    exact ⟨rfl, hB4.trans (hb5.mono hB4.size)⟩

end Go.Proofs.YtibidlgikecelaaDoor
