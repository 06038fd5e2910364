/- Contracts: Cut of anything. -/
import Derived.Test.YtibidlgikecelaaDoorT29
namespace Go.Proofs.YtibidlgikecelaaDoor
open Go.RowKit
set_option linter.unusedVariables false
set_option linter.unusedSimpArgs false

/-- The first boxes of Cut. -/
theorem cut_boxes (w : World) (K M : Int) (v : Value) : ∃ wb, wb = (w.alloc (.cells #[.int .i64 K, .int .i64 M] 38)).alloc (.cells #[v] 22) ∧ Below w.heap.size w wb ∧ wb.cell? ⟨w.heap.size, 0, none⟩ = some (.int .i64 K) ∧ wb.cell? ⟨w.heap.size, 1, none⟩ = some (.int .i64 M) ∧
    wb.cell? ⟨w.heap.size + 1, 0, none⟩ = some v ∧ wb.heap.size = w.heap.size + 2 := by
  refine ⟨_, rfl, ?_⟩
  have hb1 := below1' w (.cells #[.int .i64 K, .int .i64 M] 38)
  have hk0 : (w.alloc (.cells #[.int .i64 K, .int .i64 M] 38)).cell? ⟨w.heap.size, 0, none⟩ = some (.int .i64 K) := cell_of_row _ _ 0 _ _ (0, 0) (heap_alloc_new w _)
  have hk1 : (w.alloc (.cells #[.int .i64 K, .int .i64 M] 38)).cell? ⟨w.heap.size, 1, none⟩ = some (.int .i64 M) := cell_of_row _ _ 1 _ _ (0, 0) (heap_alloc_new w _)
  have hs1 : (w.alloc (.cells #[.int .i64 K, .int .i64 M] 38)).heap.size = w.heap.size + 1 := by simp
  generalize w.alloc (.cells #[.int .i64 K, .int .i64 M] 38) = wa at *
  have hb2 := below1' wa (.cells #[v] 22)
  have hbox := box_cell wa v 22
  rw [hs1] at hbox
  exact ⟨hb1.trans (hb2.mono hb1.size), (hb2.cell (p := ⟨w.heap.size, 0, none⟩) (by simp; omega)).trans hk0, (hb2.cell (p := ⟨w.heap.size, 1, none⟩) (by simp; omega)).trans hk1, hbox, by simp; omega⟩

/-- What Cut answers of anything. -/
def cutL (K M : Int) (lb : List B8) : List (List B8) := if lenB K M lb.length then rowsL (K.toNat + M.toNat) (lenS K.toNat lb.length) (mulM K.toNat (genM K.toNat) (cutD lb K.toNat)) else []
def cutE (K M : Int) (lb : List B8) : Int := if lenB K M lb.length then 0 else 1
theorem cutL_len (K M : Int) (lb : List B8) : (cutL K M lb).length ≤ 255 := by
  unfold cutL
  split
  · rename_i h
    obtain ⟨⟨h1, h2, h3, h4⟩, h5, _⟩ := h
    rw [length_rowsL]; omega
  · simp

set_option maxHeartbeats 800000 in
set_option maxRecDepth 100000 in
theorem cut_bad {w : World} {K M : Int} {n c : Nat} {A : Option Addr} (h : ¬ lenB K M n) : Calls Tryd.prog 39 #[.agg #[.int .i64 K, .int .i64 M], .slice A n c] w (RetE w 1) := by
  obtain ⟨wb, hwb, hB2, hk0, hk1, hbox, hsz⟩ := cut_boxes w K M (.slice A n c)
  have HWB := Lib.hid hwb
  clear hwb
  have HLE := Lib.hid (length_x (w := wb) K M n)
  unfold lenZ at HLE
  rw [if_neg h] at HLE
  clear h
  go_enter Tryd.func39, Tryd.ntmps39
  go_wp2_with fail
  have hwb := HWB.out
  rw [← hwb]
  clear hwb
  go_wp2_with fail
  refine HLE.out.mono ?_
  rintro e w3 ⟨rfl, hb3⟩
  go_wp2_with fail
  go_ret2
  exact ⟨rfl, hB2.trans (hb3.mono hB2.size)⟩

set_option maxHeartbeats 800000 in
set_option maxRecDepth 100000 in
theorem rcut_bad {w : World} {K M : Int} {n c : Nat} {A : Option Addr} (h : ¬ lenB K M n) : Calls Tryd.prog 49 #[.agg #[.int .i64 K, .int .i64 M], .slice A n c] w (RetE w 1) := by
  obtain ⟨wb, hwb, hB2, hk0, hk1, hsz⟩ := code_box w K M
  have HWB := Lib.hid hwb
  clear hwb
  have HLE := Lib.hid (rlength_x (w := wb) K M n)
  unfold lenZ at HLE
  rw [if_neg h] at HLE
  clear h
  go_enter Tryd.func49, Tryd.ntmps49
  go_wp2_with fail
  have hwb := HWB.out
  rw [← hwb]
  clear hwb
  go_wp2_with fail
  refine HLE.out.mono ?_
  rintro e w3 ⟨rfl, hb3⟩
  go_wp2_with fail
  go_ret2
  exact ⟨rfl, hB2.trans (hb3.mono hB2.size)⟩

theorem cut_x {w : World} {n c : Nat} {K M : Int} {A : Option Addr} {lb : List B8} (hA : At w A (bys lb)) (hn : n = lb.length) (hc : lb.length ≤ c) (hF : FoldAt w) :
    Calls Tryd.prog 39 #[.agg #[.int .i64 K, .int .i64 M], .slice A n c] w (RetOw w (cutL K M lb) (cutE K M lb)) := by
  unfold cutL cutE
  by_cases h : lenB K M lb.length
  · rw [if_pos h, if_pos h]
    obtain ⟨⟨c1, c2, c3, c4⟩, h1, h2⟩ := h
    obtain ⟨K, rfl⟩ := Int.eq_ofNat_of_zero_le (by omega : 0 ≤ K)
    obtain ⟨M, rfl⟩ := Int.eq_ofNat_of_zero_le (by omega : 0 ≤ M)
    have hl := lenS_le (K := K) (s := lb.length) (by omega) (by omega)
    exact (cut_calls hA hn hc (by omega) (by omega) (by omega) hF).mono fun e w' h => .inr ⟨_, _, _, by simp only [Int.toNat_natCast]; omega, by simp only [Int.toNat_natCast]; omega, rfl, rfl, h⟩
  · rw [if_neg h, if_neg h]
    exact (cut_bad (by rw [hn]; exact h)).mono fun e w' h => .inl ⟨1, h, rfl, rfl⟩
theorem rcut_x {w : World} {n c : Nat} {K M : Int} {A : Option Addr} {lb : List B8} (hA : At w A (bys lb)) (hn : n = lb.length) (hc : lb.length ≤ c) (hnil : A = none → c = 0) :
    Calls Tryd.prog 49 #[.agg #[.int .i64 K, .int .i64 M], .slice A n c] w (RetL w (cutL K M lb) (cutE K M lb)) := by
  unfold cutL cutE
  by_cases h : lenB K M lb.length
  · rw [if_pos h, if_pos h]
    obtain ⟨⟨c1, c2, c3, c4⟩, h1, h2⟩ := h
    obtain ⟨K, rfl⟩ := Int.eq_ofNat_of_zero_le (by omega : 0 ≤ K)
    obtain ⟨M, rfl⟩ := Int.eq_ofNat_of_zero_le (by omega : 0 ≤ M)
    have := rcut_calls hA hn hc hnil (by omega) (by omega : 1 ≤ K) (by omega : K + M ≤ 255)
    rw [hn] at this
    rw [hn]
    exact this.mono fun e w' h => h.l
  · rw [if_neg h, if_neg h]
    exact (rcut_bad (by rw [hn]; exact h)).mono fun e w' h => (RetE.x h).l

end Go.Proofs.YtibidlgikecelaaDoor
