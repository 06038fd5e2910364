/- Contracts: the parts of matrix.Invert. -/
import Derived.Test.YtibidlgikecelaaDoorWC
import Derived.Test.YtibidlgikecelaaDoorW15
namespace Go.Proofs.YtibidlgikecelaaDoor
open Go.RowKit
set_option linter.unusedVariables false
set_option linter.unusedSimpArgs false

set_option maxHeartbeats 400000 in
theorem inv1_calls {w : World} {cb c lx cx : Nat} {X : Option Addr} {f : Nat → B8} (hc : w.cell? ⟨cb, 0, none⟩ = some (.int .i64 (c : Int))) (hX : At w X (bys (rowL lx f))) (hlt : c < lx) :
    Calls Tryd.prog 64 #[.slice X lx cx, .pointer (some ⟨cb, 0, none⟩)] w fun e w' => e = .returned (.bool (decide (f c ≠ 0#8))) ∧ w = w' := by
  obtain ⟨b, off, rfl, hb⟩ := row_byte hX hlt
  have hci : (c : Int) < (lx : Int) := by omega
  by_cases hz : f c = 0#8
  · rw [hz] at hb
    have hd : decide (f c ≠ 0#8) = false := by simp [hz]
    rw [hd]
    clear hd hz
    go_enter Tryd.func64, Tryd.ntmps64
    go_wp2_with fail
    go_ret
    exact ⟨rfl, rfl⟩
  · have h0 := byte_eq0 hz
    have hne : (((f c).toNat : Int) != 0) = true := by
      rw [bne, h0]; rfl
    rw [decide_eq_true hz]
    generalize f c = y at *
    clear hz h0
    go_enter Tryd.func64, Tryd.ntmps64
    go_wp2_with fail
    go_ret
    exact ⟨rfl, rfl⟩

set_option maxHeartbeats 400000 in
set_option maxRecDepth 100000 in
theorem invidx_calls {w : World} {cb c n m B g : Nat} {blk : Nat → Nat} {W : Mx} (hc : w.cell? ⟨cb, 0, none⟩ = some (.int .i64 (c : Int))) (hG : Grid w B g blk n m W) (hcn : c < n) (hcm : c < m) (hn : n ≤ 255) :
    Calls Tryd.prog 63 #[.slice (some ⟨g, c, none⟩) (n - c) (n - c), .func (.func 64) #[] #[.pointer (some ⟨cb, 0, none⟩)]] w fun e w' => e = .returned (.int .i64 (pivZ n c W)) ∧ w = w' := by
  obtain ⟨q, rfl⟩ : ∃ q, n = c + q := ⟨n - c, by omega⟩
  rw [show c + q - c = q by omega]
  generalize hr : pivZ (c + q) c W = r
  have HR := Lib.hid hr
  clear hr
  go_enter Tryd.func63, Tryd.ntmps63
  go_wp2_with fail
  go_loop [8] (fun s8 => ∃ j : Nat, j ≤ q ∧ s8 = .int .i64 ((j : Nat) : Int) ∧ ∀ i, i < j → W (c + i) c = 0#8) (fun s8 => q - (intOf s8).toNat)
  case atStart => exact ⟨0, by omega, rfl, by intro i hi; omega⟩
  case round =>
    obtain ⟨j, hj, rfl, hall⟩ := hrel
    have HALL := Lib.hid hall
    clear hall
    by_cases hjq : j < q
    · have hji : (j : Int) < (q : Int) := by omega
      have hcl := hG.cell (i := c + j) (by omega)
      have hC := inv1_calls (cx := m) hc (hG.row (c + j) (by omega)).at hcm
      by_cases hz : W (c + j) c = 0#8
      · rw [show decide (W (c + j) c ≠ 0#8) = false by simp [hz]] at hC
        have HC := Lib.hid hC
        have HZ := Lib.hid hz
        clear hC hz
        go_wp2_with fail
        refine HC.out.mono ?_
        rintro e w' ⟨rfl, rfl⟩
        go_wp2_with fail
        refine ⟨⟨j + 1, by omega, by go_num, fun i hi => ?_⟩, by simp [intOf]; omega⟩
        by_cases hij : i < j
        · exact HALL.out i hij
        · obtain rfl : i = j := by omega
          exact HZ.out
      · rw [decide_eq_true hz] at hC
        have HC := Lib.hid hC
        have HZ := Lib.hid hz
        clear hC hz
        go_wp2_with fail
        refine HC.out.mono ?_
        rintro e w' ⟨rfl, rfl⟩
        go_wp2_with fail
        go_ret
        refine ⟨ret_int ?_, rfl⟩
        rw [← HR.out]
        exact (pivZ_at (by omega) HZ.out HALL.out).2.symm
    · obtain rfl : j = q := by omega
      go_wp2_with fail
      go_ret
      refine ⟨ret_int ?_, rfl⟩
      rw [← HR.out]
      exact (pivZ_no fun i hi => HALL.out i (by omega)).2.symm

/-- A shorter text over a row of noughts, and a one behind it. -/
theorem over_side {n i : Nat} (M : Mx) (hi : i < n) :
    (rowL (2 * n) (fun _ => 0#8)).take 0 ++ (rowL n (M i) ++ (rowL (2 * n) (fun _ => 0#8)).drop (0 + (rowL n (M i)).length)) = rowL (2 * n) (fun j => if j < n then M i j else 0#8) := by
  apply List.ext_getElem?
  intro j
  simp only [List.take_zero, List.nil_append, Nat.zero_add, length_rowL]
  by_cases hj : j < n
  · rw [List.getElem?_append_left (by simpa using hj), rowL_get hj, rowL_get (by omega)]
    simp [hj]
  · rw [List.getElem?_append_right (by simpa using hj), length_rowL, List.getElem?_drop, show n + (j - n) = j by omega]
    by_cases hj2 : j < 2 * n
    · rw [rowL_get hj2, rowL_get hj2]; simp [hj]
    · rw [List.getElem?_eq_none (by simpa using hj2), List.getElem?_eq_none (by simpa using hj2)]
theorem side_row {n i : Nat} (M : Mx) (hi : i < n) : (fun j => if j = n + i then 1#8 else (if j < n then M i j else 0#8)) = sideM n M i := by
  funext j
  unfold sideM
  by_cases h : j = n + i
  · subst h
    have : ¬ n + i < n := by omega
    simp [this]
  · simp [h]
/-- Rows c and p change places. -/
theorem Grid.swap {w : World} {B g r m : Nat} {blk : Nat → Nat} {W : Mx} (h : Grid w B g blk r m W) {c p : Nat} (hc : c < r) (hp : p < r) :
    Grid ((w.setCell ⟨g, c, none⟩ (.slice (some ⟨blk p, 0, none⟩) m m)).setCell ⟨g, p, none⟩ (.slice (some ⟨blk c, 0, none⟩) m m)) B g (fun k => if k = p then blk c else if k = c then blk p else blk k) r m (fun k => if k = p then W c else if k = c then W p else W k) := by
  have h1 := heap_setCell_same w g c _ _ (.slice (some ⟨blk p, 0, none⟩) m m) h.top
  have h2 := heap_setCell_same _ g p _ _ (.slice (some ⟨blk c, 0, none⟩) m m) h1
  refine ⟨?_, fun k hk => ?_, fun i j hi hj he => ?_, h.geG, fun k hk => ?_⟩
  · rw [h2]
    congr 2
    rw [List.setIfInBounds_toArray, List.setIfInBounds_toArray]
    congr 1
    apply List.ext_getElem?
    intro k
    rw [List.getElem?_set, List.getElem?_set]
    simp only [List.length_set, length_headsV]
    by_cases hk : k < r
    · rw [headsV_get hk, headsV_get hk]
      by_cases hkp : p = k
      · subst hkp; simp [hk]
      · have hkp' : ¬ k = p := fun h => hkp h.symm
        by_cases hkc : c = k
        · subst hkc; simp [hkp, hkp', hk]
        · have hkc' : ¬ k = c := fun h => hkc h.symm
          simp [hkp, hkc, hkp', hkc']
    · have e1 : (headsV blk r m)[k]? = none := List.getElem?_eq_none (by simpa using hk)
      have e2 : (headsV (fun k => if k = p then blk c else if k = c then blk p else blk k) r m)[k]? = none := List.getElem?_eq_none (by simpa using hk)
      have hkp : ¬ p = k := by omega
      have hkc : ¬ c = k := by omega
      rw [e2]
      simp [hkp, hkc, e1]
  · have hne : ∀ i, i < r → blk i ≠ g := fun i hi => h.ne hi
    have hst : ∀ i, i < r → RowB ((w.setCell ⟨g, c, none⟩ (.slice (some ⟨blk p, 0, none⟩) m m)).setCell ⟨g, p, none⟩ (.slice (some ⟨blk c, 0, none⟩) m m)) (blk i) (rowL m (W i)) := fun i hi =>
      ((h.row i hi).grown (grown_set w g c _) (by simpa using hne i hi)).grown (grown_set _ g p _) (by simpa using hne i hi)
    by_cases hkp : k = p
    · subst hkp; simp only [if_true]; exact hst c hc
    · by_cases hkc : k = c
      · subst hkc; simp only [hkp, if_false, if_true]; exact hst p hp
      · simp only [hkp, hkc, if_false]; exact hst k hk
  · have hpi : ∀ k, (if k = p then blk c else if k = c then blk p else blk k) = blk (if k = p then c else if k = c then p else k) := by
      intro k
      split
      · rfl
      · split <;> rfl
    have hlt : ∀ k, k < r → (if k = p then c else if k = c then p else k) < r := by
      intro k hk
      split
      · exact hc
      · split
        · exact hp
        · exact hk
    simp only [hpi] at he
    have := h.inj _ _ (hlt i hi) (hlt j hj) he
    repeat' (split at this)
    all_goals omega
  · by_cases hkp : k = p
    · subst hkp; simp only [if_true]; exact h.geB c hc
    · by_cases hkc : k = c
      · subst hkc; simp only [hkp, if_false, if_true]; exact h.geB p hp
      · simp only [hkp, hkc, if_false]; exact h.geB k hk
theorem swapM_is (c p : Nat) (W : Mx) : (fun k => if k = p then W c else if k = c then W p else W k) = swapM c p W := by
  funext k
  unfold swapM
  by_cases hkc : k = c
  · subst hkc
    by_cases hkp : k = p
    · subst hkp; simp
    · simp [hkp]
  · by_cases hkp : k = p
    · subst hkp; simp [hkc]
    · simp [hkp, hkc]

end Go.Proofs.YtibidlgikecelaaDoor
