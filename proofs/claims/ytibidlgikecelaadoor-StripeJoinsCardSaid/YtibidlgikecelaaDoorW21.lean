/- Contract: the law MatrixAny. -/
import Derived.Test.YtibidlgikecelaaDoorW20
import Derived.Test.YtibidlgikecelaaDoorW18
namespace Go.Proofs.YtibidlgikecelaaDoor
open Go.RowKit
set_option linter.unusedVariables false
set_option linter.unusedSimpArgs false

/-- Whole numbers from 0 on, as numbers. -/
def asInts (l : List Nat) : List Int := l.map fun x : Nat => (x : Int)
@[simp] theorem length_asInts (l : List Nat) : (asInts l).length = l.length := by simp [asInts]
theorem asInts_snoc (l : List Nat) (x : Nat) : asInts l ++ [(x : Int)] = asInts (l ++ [x]) := by simp [asInts]
theorem pick_nat (l : List Nat) (M : Mx) : pickM (asInts l) M = fun i j => M (l.getD i 0) j := by
  funext i j
  unfold pickM asInts
  by_cases h : i < l.length
  · simp [List.getD_eq_getElem?_getD, h]
  · simp [List.getD_eq_getElem?_getD, h]
/-- Places picked so far: ascending, few enough, and enough are left. -/
structure Picked (K N i : Nat) (l : List Nat) : Prop where
  lt : ∀ x, x ∈ l → x < i
  nd : l.Pairwise (· ≠ ·)
  le : l.length ≤ K
  left : K ≤ l.length + (N - i)
theorem Picked.take {K N i : Nat} {l : List Nat} (h : Picked K N i l) (hl : l.length < K) (hi : i < N) : Picked K N (i + 1) (l ++ [i]) := by
  have hle := h.left
  refine ⟨fun x hx => ?_, ?_, by simp; omega, by simp; omega⟩
  · rcases List.mem_append.1 hx with hx | hx
    · have := h.lt x hx; omega
    · rw [List.mem_singleton] at hx; omega
  · rw [List.pairwise_append]
    refine ⟨h.nd, by simp, fun a ha b hb => ?_⟩
    rw [List.mem_singleton] at hb
    have := h.lt a ha
    omega
theorem Picked.skip {K N i : Nat} {l : List Nat} (h : Picked K N i l) (hs : K ≤ l.length + (N - (i + 1))) : Picked K N (i + 1) l :=
  ⟨fun x hx => by have := h.lt x hx; omega, h.nd, h.le, hs⟩

set_option maxHeartbeats 800000 in
set_option maxRecDepth 100000 in
theorem matrixAny_calls {w : World} {x y z : Int} (hF : FoldAt w) (hz : (Lit.int .u64 z).wf = true) :
    Calls Tryd.prog 7 #[.int .i64 x, .int .i64 y, .int .u64 z] w (RetV w (.bool true)) := by
  obtain ⟨K, hK1, hK2, hKe⟩ := pick_add 1 x 12 (by decide) (by decide) (by decide)
  obtain ⟨M, hM2, hMe⟩ := pick_mod y 6 (by decide) (by decide)
  have HK := Lib.hid hKe
  have HM := Lib.hid hMe
  clear hKe hMe
  have hbw := below1' w (.cells #[.int .i64 (K : Int), .int .i64 (M : Int)] 38)
  have hk0 : (w.alloc (.cells #[.int .i64 (K : Int), .int .i64 (M : Int)] 38)).cell? ⟨w.heap.size, 0, none⟩ = some (.int .i64 (K : Int)) := cell_of_row _ _ 0 _ _ (0, 0) (heap_alloc_new w _)
  have hk1 : (w.alloc (.cells #[.int .i64 (K : Int), .int .i64 (M : Int)] 38)).cell? ⟨w.heap.size, 1, none⟩ = some (.int .i64 (M : Int)) := cell_of_row _ _ 1 _ _ (0, 0) (heap_alloc_new w _)
  go_enter Tryd.func7, Tryd.ntmps7
  go_wp2_with fail
  have hKe := HK.out
  rw [Int.natCast_one] at hKe
  rw [hKe, HM.out]
  clear hKe HK HM
  generalize w.alloc (.cells #[.int .i64 (K : Int), .int .i64 (M : Int)] 38) = w0 at *
  refine (gener_calls hK1 (by omega) (FoldAt.below hF hbw)).mono ?_
  rintro e w1 ⟨g, blk, rfl, hG, hb1⟩
  have hX := hG.mat (by omega)
  have HB := hbw.trans (hb1.mono hbw.size)
  have hc0 := (hb1.cell (p := ⟨w.heap.size, 0, none⟩) (block_lt hk0)).trans hk0
  have hc1 := (hb1.cell (p := ⟨w.heap.size, 1, none⟩) (block_lt hk1)).trans hk1
  have hnn : ((K : Int) + (M : Int) != (K : Int) + (M : Int)) = false := by simp
  have hM6 : M < 6 := by omega
  have hK12 : K ≤ 12 := by omega
  clear hG hb1 hk0 hk1 hbw hM2 hK2
  go_wp2_with fail
  go_loopw [10, 46] (fun s10 s wr => ∃ (i : Nat) (l : List Nat) (A' : Option Addr) (c' : Nat), i ≤ K + M ∧ s = .int .i64 ((i : Nat) : Int) ∧ s10 = .slice A' l.length c' ∧ wr.ownsRow w1.heap.size 3 1 (.slice A' l.length c') l.length (ints (asInts l)) ∧ Picked K (K + M) i l ∧ Below w1.heap.size w1 wr) (fun _ s _ => K + M - (intOf s).toNat)
  case atStart => exact ⟨0, [], none, 0, by omega, rfl, rfl, World.ownsRow_nil _ _ _ _, ⟨by simp, List.Pairwise.nil, by simp, by simp⟩, Below.refl _ _⟩
  case round =>
    obtain ⟨i, l, A', c', hi, rfl, rfl, ho, hP, hb⟩ := hrel
    by_cases hin : i < K + M
    · have hii : (i : Int) < (K : Int) + (M : Int) := by omega
      have hw0 := (hb.cell (p := ⟨w.heap.size, 0, none⟩) (block_lt hc0)).trans hc0
      have hw1 := (hb.cell (p := ⟨w.heap.size, 1, none⟩) (block_lt hc1)).trans hc1
      have hlK := hP.le
      have hleft := hP.left
      by_cases hlen : l.length < K
      · have hd1 : decide ((l.length : Int) < (K : Int)) = true := decide_eq_true (by omega)
        have HT := Lib.hid (hP.take hlen hin)
        have ho2 := own_below ho (below1' wr (.cells #[.int .i64 (i : Int)] 3))
        by_cases hbit : bits .and .u64 (z / 2 ^ i) 1 = 1
        · clear hP
          (go_wp2_with (at_builtin; refine app_ints rfl (.tmp 77) (.tmp 79) rfl w1.heap.size rfl ho2 rfl (news := [(i : Int)]) rfl (by exact at_new _ _ _ _) (by simp) (by omega) (by have := hb.size; simp; omega) ?_; intro A4 c4 w4 ho4 hb4 hg4 hc4)); rw [asInts_snoc] at ho4; exact ⟨⟨i + 1, l ++ [i], A4, c4, by omega, by go_num, by simp, by simpa using ho4, HT.out, (hb.trans ((below1' _ _).mono hb.size)).trans hb4⟩, by simp [intOf]; omega⟩
        · by_cases hfew : K + M - i ≤ K - l.length
          · have hd2 : (K : Int) + (M : Int) - (i : Int) ≤ (K : Int) - (l.length : Int) := by omega
            clear hP
            (go_wp2_with (at_builtin; refine app_ints rfl (.tmp 77) (.tmp 79) rfl w1.heap.size rfl ho2 rfl (news := [(i : Int)]) rfl (by exact at_new _ _ _ _) (by simp) (by omega) (by have := hb.size; simp; omega) ?_; intro A4 c4 w4 ho4 hb4 hg4 hc4)); rw [asInts_snoc] at ho4; exact ⟨⟨i + 1, l ++ [i], A4, c4, by omega, by go_num, by simp, by simpa using ho4, HT.out, (hb.trans ((below1' _ _).mono hb.size)).trans hb4⟩, by simp [intOf]; omega⟩
          · have hd2 : ¬ ((K : Int) + (M : Int) - (i : Int) ≤ (K : Int) - (l.length : Int)) := by omega
            have HPS := Lib.hid (hP.skip (by omega))
            clear hP
            go_wp2_with fail
            exact ⟨⟨i + 1, l, A', c', by omega, by go_num, rfl, ho, HPS.out, hb⟩, by simp [intOf]; omega⟩
      · have hd1 : decide ((l.length : Int) < (K : Int)) = false := decide_eq_false (by omega)
        have HPS := Lib.hid (hP.skip (by omega))
        clear hP
        go_wp2_with fail
        exact ⟨⟨i + 1, l, A', c', by omega, by go_num, rfl, ho, HPS.out, hb⟩, by simp [intOf]; omega⟩
    · have hiN : i = K + M := by omega
      have hnb : ¬ ((i : Int) < (K : Int) + (M : Int)) := by omega
      have hlK : l.length = K := by have := hP.le; have := hP.left; omega
      have hX2 := hX.below hb
      have HB2 := HB.trans (hb.mono HB.size)
      have hlt : ∀ y, y ∈ asInts l → 0 ≤ y ∧ y < ((K + M : Nat) : Int) := by
        intro y hy
        obtain ⟨t, ht, rfl⟩ := List.mem_map.1 hy
        have := hP.lt t ht
        omega
      obtain ⟨R, hR⟩ := mds_inv (K := K) (l := l) hlK hP.nd (fun t ht => by have := hP.lt t ht; omega) (by omega)
      rw [← pick_nat l (genM K)] at hR
      have HR := Lib.hid hR
      have hlA := own_at ho
      have HL := Lib.hid hlK
      clear hR hP hiN ho hX hb hlK
      go_wp2_with fail
      refine (rows_mat hX2 hlA (by simp) ⟨by omega, by omega⟩ ⟨by omega, by omega⟩ (by rw [length_asInts, HL.out]; exact ⟨by omega, by omega⟩) hlt).mono ?_
      rintro e w4 ⟨g4, rfl, hY, hb4⟩
      have HB4 := HB2.trans (hb4.mono HB2.size)
      go_wp2_with fail
      have hI := Lib.hid (invert_mat (cA := K) (by have h := hY; rw [HL.out] at h; exact h) (by constructor <;> omega) (FoldAt.below hF HB4))
      rw [HR.out] at hI
      have hLL := HL.out
      rw [hLL]
      clear hLL
      refine hI.out.mono ?_
      rintro e w5 ⟨g5, b5, rfl, hG5, hb5⟩
      go_wp2_with fail
      go_ret
      exact ⟨rfl, HB4.trans (hb5.mono HB4.size)⟩

end Go.Proofs.YtibidlgikecelaaDoor
