/- Contracts: reed.each over rows, reed.times, reed.Can, reed.Encode. -/
import Derived.Test.YtibidlgikecelaaDoorR1
import Derived.Test.YtibidlgikecelaaDoorW20
namespace Go.Proofs.YtibidlgikecelaaDoor
open Go.RowKit
set_option linter.unusedVariables false
set_option linter.unusedSimpArgs false

theorem mulM_row (n : Nat) (G D : Mx) (i : Nat) : mulM n G D i = sumAt (G i) D n := rfl

set_option maxHeartbeats 800000 in
set_option maxRecDepth 100000 in
theorem each_calls {w : World} {tb bS oS r K c cS cA : Nat} {A : Option Addr} {vA vS : List Value} {G D : Mx} (hbox : w.cell? ⟨tb, 0, none⟩ = some (.slice (some ⟨bS, oS, none⟩) K cS))
    (hS : At w (some ⟨bS, oS, none⟩) vS) (hLS : Texts w vS (rowsL K c D)) (hA : At w A vA) (hLA : Texts w vA (rowsL r K G)) (hK : 0 < K) (hK2 : K ≤ 255) (hc : c ≤ 1000000) (hr : r ≤ 1000) (hF : FoldAt w) :
    Calls Tryd.prog 93 #[.slice A r cA, .func (.func 94) #[] #[.pointer (some ⟨tb, 0, none⟩)]] w (RetS w r c (mulM K G D)) := by
  go_enter Tryd.func93, Tryd.ntmps93
  go_wp2_with fail
  go_loopw [5, 10] (fun s5 s wr => ∃ (i : Nat) (A' : Option Addr) (cap : Nat) (blk : Nat → Nat), i ≤ r ∧ s = .int .i64 ((i : Nat) : Int) ∧ s5 = .slice A' i cap ∧ OwnG wr w.heap.size A' cap blk i c (mulM K G D) ∧ Below w.heap.size w wr) (fun _ s _ => r - (intOf s).toNat)
  case atStart => exact ⟨0, none, 0, fun _ => 0, by omega, rfl, rfl, OwnG.nil _ _ _ _ _, Below.refl _ _⟩
  case round =>
    obtain ⟨i, A', cap, blk, hi, rfl, rfl, hG, hb⟩ := hrel
    rename World => w1
    by_cases hir : i < r
    · have hii : (i : Int) < (r : Int) := by omega
      obtain ⟨ba, oa, rfl, hba⟩ := heads_some hA hLA (by simp; omega)
      obtain ⟨X, cx, hca, hX, _, _⟩ := row_head hA hLA hir
      have hcaw := (hb.cell (p := ⟨ba, oa + i, none⟩) hba).trans hca
      have hbox1 := (hb.cell (p := ⟨tb, 0, none⟩) (block_lt hbox)).trans hbox
      have HT := Lib.hid (times1_calls (cX := cx) hbox1 (hS.below hb) (hLS.below hb) (hX.below hb) hK hK2 hc (FoldAt.below hF hb))
      rw [← mulM_row] at HT
      have HG := Lib.hid hG
      have hzb := hb.size
      clear hG hca hbox1
      go_wp2_with fail
      refine HT.out.mono ?_
      rintro e w2 ⟨rb, rfl, hR, hrb, hb2⟩
      have hb5 : Below w1.heap.size w1 (w2.alloc (.cells #[.slice (some ⟨rb, 0, none⟩) c c] 22)) := hb2.alloc hb2.size _
      have hG5 := HG.out.below hb5
      have hR5 := hR.below (below1' w2 (.cells #[.slice (some ⟨rb, 0, none⟩) c c] 22)) hR.lt
      have hne5 : ∀ t, t < i → blk t ≠ rb := fun t ht he => by have := (HG.out.row t ht).lt; omega
      have hz2 := hb2.size
      clear HT
      go_wp2_with (at_builtin; refine app_head rfl (.tmp 14) (.tmp 18) rfl w.heap.size rfl hG5.own rfl (news := [.slice (some ⟨rb, 0, none⟩) c c]) rfl (at_lit1 _ _ _) (by intro u hu; rw [List.mem_singleton] at hu; subst hu; rfl) (by simp) (by omega) (by simp; omega) ?_; intro A4 c4 w4 ho4 hb4 hg4 hc4)
      have hG6 := hG5.snoc (M := mulM K G D) hR5 (by omega) hne5 ho4 hg4 rfl
      exact ⟨⟨i + 1, A4, c4, _, by omega, by go_num, rfl, hG6, (hb.trans (hb5.mono hzb)).trans hb4⟩, by simp [intOf]; omega⟩
    · obtain rfl : r = i := by omega
      go_wp2_with fail
      go_ret
      exact ⟨_, _, _, rfl, hG, hb⟩

set_option maxHeartbeats 400000 in
theorem times_calls {w : World} {r K c cS cA : Nat} {A S : Option Addr} {G D : Mx} (hS : MatAt w S K c D) (hA : MatAt w A r K G) (hK : 0 < K) (hK2 : K ≤ 255) (hc : c ≤ 1000000) (hr : r ≤ 1000) (hF : FoldAt w) :
    Calls Tryd.prog 71 #[.slice A r cA, .slice S K cS] w (RetS w r c (mulM K G D)) := by
  obtain ⟨vS, hS1, hS2⟩ := hS
  obtain ⟨vA, hA1, hA2⟩ := hA
  obtain ⟨bS, oS, rfl⟩ := some_of_at hS1 (by rw [hS2.1]; simpa using hK)
  have hbw := below1' w (.cells #[.slice (some ⟨bS, oS, none⟩) K cS] 24)
  have HE := Lib.hid (each_calls (cA := cA) (box_cell w (.slice (some ⟨bS, oS, none⟩) K cS) 24) (hS1.below hbw) (hS2.below hbw) (hA1.below hbw) (hA2.below hbw) hK hK2 hc hr (FoldAt.below hF hbw))
  go_enter Tryd.func71, Tryd.ntmps71
  go_wp2_with fail
  refine HE.out.mono ?_
  rintro e w2 ⟨A', cap, blk, rfl, hG, hb⟩
  go_wp2_with fail
  go_ret
  exact ⟨A', cap, blk, rfl, hG.lower (by simp), hbw.trans (hb.mono hbw.size)⟩

/-- A code may be. -/
def canB (K M : Int) : Bool := decide (1 ≤ K) && decide (0 ≤ M) && decide (K ≤ 255) && decide (M ≤ 255 - K)
set_option maxHeartbeats 400000 in
theorem can_calls {w : World} {K M : Nat} (hK : 1 ≤ K) (hKM : K + M ≤ 255) : Calls Tryd.prog 35 #[.agg #[.int .i64 (K : Int), .int .i64 (M : Int)]] w (RetV w (.bool true)) := by
  have d1 : decide ((1 : Int) ≤ (K : Int)) = true := decide_eq_true (by omega)
  have d2 : decide ((0 : Int) ≤ (M : Int)) = true := decide_eq_true (by omega)
  have d3 : decide ((K : Int) ≤ (255 : Int)) = true := decide_eq_true (by omega)
  have d4 : decide ((M : Int) ≤ (255 : Int) - (K : Int)) = true := decide_eq_true (by omega)
  have hbw := below1' w (.cells #[.int .i64 (K : Int), .int .i64 (M : Int)] 38)
  have hk0 : (w.alloc (.cells #[.int .i64 (K : Int), .int .i64 (M : Int)] 38)).cell? ⟨w.heap.size, 0, none⟩ = some (.int .i64 (K : Int)) := cell_of_row _ _ 0 _ _ (0, 0) (heap_alloc_new w _)
  have hk1 : (w.alloc (.cells #[.int .i64 (K : Int), .int .i64 (M : Int)] 38)).cell? ⟨w.heap.size, 1, none⟩ = some (.int .i64 (M : Int)) := cell_of_row _ _ 1 _ _ (0, 0) (heap_alloc_new w _)
  go_enter Tryd.func35, Tryd.ntmps35
  go_wp2_with fail
  go_ret
  exact ⟨rfl, hbw⟩

end Go.Proofs.YtibidlgikecelaaDoor
