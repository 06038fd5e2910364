/- Contracts: amphoraref02.Identity, amphoraref02.Generator, the codes that may not be, the law's awake. -/
import Derived.Test.YtibidlgikecelaaDoorRA
import Derived.Test.YtibidlgikecelaaDoorW18
namespace Go.Proofs.YtibidlgikecelaaDoor
open Go.RowKit
set_option linter.unusedVariables false
set_option linter.unusedSimpArgs false

set_option maxHeartbeats 400000 in
set_option maxRecDepth 100000 in
theorem gener_bad {w : World} {K M : Int} (h : K < 1 ∨ M < 0 ∨ 255 < K ∨ 255 - K < M) : Calls Tryd.prog 31 #[.agg #[.int .i64 K, .int .i64 M]] w (RetE w 1) := by
  have hbw := below1' w (.cells #[.int .i64 K, .int .i64 M] 38)
  have hk0 : (w.alloc (.cells #[.int .i64 K, .int .i64 M] 38)).cell? ⟨w.heap.size, 0, none⟩ = some (.int .i64 K) := cell_of_row _ _ 0 _ _ (0, 0) (heap_alloc_new w _)
  have hk1 : (w.alloc (.cells #[.int .i64 K, .int .i64 M] 38)).cell? ⟨w.heap.size, 1, none⟩ = some (.int .i64 M) := cell_of_row _ _ 1 _ _ (0, 0) (heap_alloc_new w _)
  by_cases h1 : K < 1
  · have d1 : decide (K < (1 : Int)) = true := by simp; omega
    clear h h1
    go_enter Tryd.func31, Tryd.ntmps31
    go_wp2_with fail
    go_ret2
    exact ⟨rfl, hbw⟩
  · have d1 : ¬ (decide (K < (1 : Int)) = true) := by simp; omega
    have e1 := (Bool.eq_not_of_ne d1)
    simp only [Bool.not_true, Bool.not_false] at e1
    clear d1
    by_cases h2 : M < 0
    · have d2 : decide (M < (0 : Int)) = true := by simp; omega
      clear h h1 h2
      go_enter Tryd.func31, Tryd.ntmps31
      go_wp2_with fail
      go_ret2
      exact ⟨rfl, hbw⟩
    · have d2 : ¬ (decide (M < (0 : Int)) = true) := by simp; omega
      have e2 := (Bool.eq_not_of_ne d2)
      simp only [Bool.not_true, Bool.not_false] at e2
      clear d2
      by_cases h3 : 255 < K
      · have d3 : decide ((255 : Int) < K) = true := by simp; omega
        clear h h1 h2 h3
        go_enter Tryd.func31, Tryd.ntmps31
        go_wp2_with fail
        go_ret2
        exact ⟨rfl, hbw⟩
      · have d3 : ¬ (decide ((255 : Int) < K) = true) := by simp; omega
        have e3 := (Bool.eq_not_of_ne d3)
        simp only [Bool.not_true, Bool.not_false] at e3
        clear d3
        have d4 : decide ((255 : Int) - K < M) = true := by simp; omega
        have hr : -1000 ≤ 255 - K ∧ 255 - K ≤ 1000 := by omega
        clear h h1 h2 h3
        go_enter Tryd.func31, Tryd.ntmps31
        go_wp2_with fail
        go_ret2
        exact ⟨rfl, hbw⟩
set_option maxHeartbeats 400000 in
set_option maxRecDepth 100000 in
theorem rgener_bad {w : World} {K M : Int} (h : K < 1 ∨ M < 0 ∨ 255 < K ∨ 255 - K < M) : Calls Tryd.prog 44 #[.agg #[.int .i64 K, .int .i64 M]] w (RetE w 1) := by
  have hbw := below1' w (.cells #[.int .i64 K, .int .i64 M] 38)
  have hk0 : (w.alloc (.cells #[.int .i64 K, .int .i64 M] 38)).cell? ⟨w.heap.size, 0, none⟩ = some (.int .i64 K) := cell_of_row _ _ 0 _ _ (0, 0) (heap_alloc_new w _)
  have hk1 : (w.alloc (.cells #[.int .i64 K, .int .i64 M] 38)).cell? ⟨w.heap.size, 1, none⟩ = some (.int .i64 M) := cell_of_row _ _ 1 _ _ (0, 0) (heap_alloc_new w _)
  by_cases h1 : K < 1
  · have d1 : decide (K < (1 : Int)) = true := by simp; omega
    clear h h1
    go_enter Tryd.func44, Tryd.ntmps44
    go_wp2_with fail
    go_ret2
    exact ⟨rfl, hbw⟩
  · have d1 : ¬ (decide (K < (1 : Int)) = true) := by simp; omega
    have e1 := (Bool.eq_not_of_ne d1)
    simp only [Bool.not_true, Bool.not_false] at e1
    clear d1
    by_cases h2 : M < 0
    · have d2 : decide (M < (0 : Int)) = true := by simp; omega
      clear h h1 h2
      go_enter Tryd.func44, Tryd.ntmps44
      go_wp2_with fail
      go_ret2
      exact ⟨rfl, hbw⟩
    · have d2 : ¬ (decide (M < (0 : Int)) = true) := by simp; omega
      have e2 := (Bool.eq_not_of_ne d2)
      simp only [Bool.not_true, Bool.not_false] at e2
      clear d2
      by_cases h3 : 255 < K
      · have d3 : decide ((255 : Int) < K) = true := by simp; omega
        clear h h1 h2 h3
        go_enter Tryd.func44, Tryd.ntmps44
        go_wp2_with fail
        go_ret2
        exact ⟨rfl, hbw⟩
      · have d3 : ¬ (decide ((255 : Int) < K) = true) := by simp; omega
        have e3 := (Bool.eq_not_of_ne d3)
        simp only [Bool.not_true, Bool.not_false] at e3
        clear d3
        have d4 : decide ((255 : Int) - K < M) = true := by simp; omega
        have hr : -1000 ≤ 255 - K ∧ 255 - K ≤ 1000 := by omega
        clear h h1 h2 h3
        go_enter Tryd.func44, Tryd.ntmps44
        go_wp2_with fail
        go_ret2
        exact ⟨rfl, hbw⟩
set_option maxHeartbeats 400000 in
set_option maxRecDepth 100000 in
theorem can_bad {w : World} {K M : Int} (h : K < 1 ∨ M < 0 ∨ 255 < K ∨ 255 - K < M) : Calls Tryd.prog 35 #[.agg #[.int .i64 K, .int .i64 M]] w (RetV w (.bool false)) := by
  have hbw := below1' w (.cells #[.int .i64 K, .int .i64 M] 38)
  have hk0 : (w.alloc (.cells #[.int .i64 K, .int .i64 M] 38)).cell? ⟨w.heap.size, 0, none⟩ = some (.int .i64 K) := cell_of_row _ _ 0 _ _ (0, 0) (heap_alloc_new w _)
  have hk1 : (w.alloc (.cells #[.int .i64 K, .int .i64 M] 38)).cell? ⟨w.heap.size, 1, none⟩ = some (.int .i64 M) := cell_of_row _ _ 1 _ _ (0, 0) (heap_alloc_new w _)
  by_cases h1 : K < 1
  · have d1 : decide ((1 : Int) ≤ K) = false := by simp; omega
    clear h h1
    go_enter Tryd.func35, Tryd.ntmps35
    go_wp2_with fail
    go_ret
    exact ⟨rfl, hbw⟩
  · have d1 : ¬ (decide ((1 : Int) ≤ K) = false) := by simp; omega
    have e1 := (Bool.eq_not_of_ne d1)
    simp only [Bool.not_true, Bool.not_false] at e1
    clear d1
    by_cases h2 : M < 0
    · have d2 : decide ((0 : Int) ≤ M) = false := by simp; omega
      clear h h1 h2
      go_enter Tryd.func35, Tryd.ntmps35
      go_wp2_with fail
      go_ret
      exact ⟨rfl, hbw⟩
    · have d2 : ¬ (decide ((0 : Int) ≤ M) = false) := by simp; omega
      have e2 := (Bool.eq_not_of_ne d2)
      simp only [Bool.not_true, Bool.not_false] at e2
      clear d2
      by_cases h3 : 255 < K
      · have d3 : decide (K ≤ (255 : Int)) = false := by simp; omega
        clear h h1 h2 h3
        go_enter Tryd.func35, Tryd.ntmps35
        go_wp2_with fail
        go_ret
        exact ⟨rfl, hbw⟩
      · have d3 : ¬ (decide (K ≤ (255 : Int)) = false) := by simp; omega
        have e3 := (Bool.eq_not_of_ne d3)
        simp only [Bool.not_true, Bool.not_false] at e3
        clear d3
        have d4 : decide (M ≤ (255 : Int) - K) = false := by simp; omega
        have hr : -1000 ≤ 255 - K ∧ 255 - K ≤ 1000 := by omega
        clear h h1 h2 h3
        go_enter Tryd.func35, Tryd.ntmps35
        go_wp2_with fail
        go_ret
        exact ⟨rfl, hbw⟩
set_option maxHeartbeats 400000 in
set_option maxRecDepth 100000 in
theorem rcan_bad {w : World} {K M : Int} (h : K < 1 ∨ M < 0 ∨ 255 < K ∨ 255 - K < M) : Calls Tryd.prog 36 #[.agg #[.int .i64 K, .int .i64 M]] w (RetV w (.bool false)) := by
  have hbw := below1' w (.cells #[.int .i64 K, .int .i64 M] 38)
  have hk0 : (w.alloc (.cells #[.int .i64 K, .int .i64 M] 38)).cell? ⟨w.heap.size, 0, none⟩ = some (.int .i64 K) := cell_of_row _ _ 0 _ _ (0, 0) (heap_alloc_new w _)
  have hk1 : (w.alloc (.cells #[.int .i64 K, .int .i64 M] 38)).cell? ⟨w.heap.size, 1, none⟩ = some (.int .i64 M) := cell_of_row _ _ 1 _ _ (0, 0) (heap_alloc_new w _)
  by_cases h1 : K < 1
  · have d1 : decide ((1 : Int) ≤ K) = false := by simp; omega
    clear h h1
    go_enter Tryd.func36, Tryd.ntmps36
    go_wp2_with fail
    go_ret
    exact ⟨rfl, hbw⟩
  · have d1 : ¬ (decide ((1 : Int) ≤ K) = false) := by simp; omega
    have e1 := (Bool.eq_not_of_ne d1)
    simp only [Bool.not_true, Bool.not_false] at e1
    clear d1
    by_cases h2 : M < 0
    · have d2 : decide ((0 : Int) ≤ M) = false := by simp; omega
      clear h h1 h2
      go_enter Tryd.func36, Tryd.ntmps36
      go_wp2_with fail
      go_ret
      exact ⟨rfl, hbw⟩
    · have d2 : ¬ (decide ((0 : Int) ≤ M) = false) := by simp; omega
      have e2 := (Bool.eq_not_of_ne d2)
      simp only [Bool.not_true, Bool.not_false] at e2
      clear d2
      by_cases h3 : 255 < K
      · have d3 : decide (K ≤ (255 : Int)) = false := by simp; omega
        clear h h1 h2 h3
        go_enter Tryd.func36, Tryd.ntmps36
        go_wp2_with fail
        go_ret
        exact ⟨rfl, hbw⟩
      · have d3 : ¬ (decide (K ≤ (255 : Int)) = false) := by simp; omega
        have e3 := (Bool.eq_not_of_ne d3)
        simp only [Bool.not_true, Bool.not_false] at e3
        clear d3
        have d4 : decide (M ≤ (255 : Int) - K) = false := by simp; omega
        have hr : -1000 ≤ 255 - K ∧ 255 - K ≤ 1000 := by omega
        clear h h1 h2 h3
        go_enter Tryd.func36, Tryd.ntmps36
        go_wp2_with fail
        go_ret
        exact ⟨rfl, hbw⟩

theorem rident_bad {w : World} {n : Int} (h : n < 1 ∨ 255 < n) : Calls Tryd.prog 43 #[.int .i64 n] w (RetE w 1) := by
  by_cases h1 : n < 1
  · have hb1 : decide (n < (1 : Int)) = true := decide_eq_true h1
    go_enter Tryd.func43, Tryd.ntmps43
    go_wp2_with fail
    go_ret2
    exact ⟨rfl, Below.refl _ _⟩
  · have hb1 : decide (n < (1 : Int)) = false := decide_eq_false h1
    have hb2 : decide ((255 : Int) < n) = true := decide_eq_true (by omega)
    go_enter Tryd.func43, Tryd.ntmps43
    go_wp2_with fail
    go_ret2
    exact ⟨rfl, Below.refl _ _⟩

theorem rcan_calls {w : World} {K M : Nat} (hK : 1 ≤ K) (hKM : K + M ≤ 255) : Calls Tryd.prog 36 #[.agg #[.int .i64 (K : Int), .int .i64 (M : Int)]] w (RetV w (.bool true)) := by
  have d1 : decide ((1 : Int) ≤ (K : Int)) = true := decide_eq_true (by omega)
  have d2 : decide ((0 : Int) ≤ (M : Int)) = true := decide_eq_true (by omega)
  have d3 : decide ((K : Int) ≤ (255 : Int)) = true := decide_eq_true (by omega)
  have d4 : decide ((M : Int) ≤ (255 : Int) - (K : Int)) = true := decide_eq_true (by omega)
  have hbw := below1' w (.cells #[.int .i64 (K : Int), .int .i64 (M : Int)] 38)
  have hk0 : (w.alloc (.cells #[.int .i64 (K : Int), .int .i64 (M : Int)] 38)).cell? ⟨w.heap.size, 0, none⟩ = some (.int .i64 (K : Int)) := cell_of_row _ _ 0 _ _ (0, 0) (heap_alloc_new w _)
  have hk1 : (w.alloc (.cells #[.int .i64 (K : Int), .int .i64 (M : Int)] 38)).cell? ⟨w.heap.size, 1, none⟩ = some (.int .i64 (M : Int)) := cell_of_row _ _ 1 _ _ (0, 0) (heap_alloc_new w _)
  go_enter Tryd.func36, Tryd.ntmps36
  go_wp2_with fail
  go_ret
  exact ⟨rfl, hbw⟩

theorem one_put (i : Nat) : (fun j => if j = i then 1#8 else (0#8 : B8)) = oneM i := by
  funext j
  unfold oneM
  by_cases h : j = i
  · subst h; simp
  · have : ¬ i = j := fun h' => h h'.symm
    simp [h, this]

set_option maxHeartbeats 800000 in
set_option maxRecDepth 100000 in
theorem rident_calls {w : World} {n : Nat} (hn : 1 ≤ n) (hn2 : n ≤ 255) : Calls Tryd.prog 43 #[.int .i64 (n : Int)] w (RetO w n n oneM) := by
  have d1 : decide ((n : Int) < (1 : Int)) = false := decide_eq_false (by omega)
  have d2 : decide ((255 : Int) < (n : Int)) = false := decide_eq_false (by omega)
  go_enter Tryd.func43, Tryd.ntmps43
  go_wp2_with fail
  go_loopw [4, 14] (fun s4 s wr => ∃ (i : Nat) (A' : Option Addr) (cap : Nat) (blk : Nat → Nat), i ≤ n ∧ s = .int .i64 ((i : Nat) : Int) ∧ s4 = .slice A' i cap ∧ OwnG wr w.heap.size A' cap blk i n oneM ∧ Below w.heap.size w wr) (fun _ s _ => n - (intOf s).toNat)
  case atStart => exact ⟨0, none, 0, fun _ => 0, by omega, rfl, rfl, OwnG.nil _ _ _ _ _, Below.refl _ _⟩
  case round =>
    obtain ⟨i, A', cap, blk, hi, rfl, rfl, hG, hb⟩ := hrel
    rename World => w1
    by_cases hin : i < n
    · have hii : (i : Int) < (n : Int) := by omega
      have HG := Lib.hid hG
      have hzw := hb.size
      clear hG
      go_wp2_with (first
        | (refine make_row rfl (.tmp 17) (.tmp 17) rfl n rfl rfl rfl rfl (by omega) ?_; intro w2 hr2 hb2 hs2; have hcs := hr2.cell (rowL_get (f := fun _ => 0#8) hin); have hfs := hr2.frozen i; have hst := hr2.put i 1#8; have hb3 := hb2.setCell (p := ⟨w1.heap.size, i, none⟩) (Nat.le_refl _) (bv 1#8); rw [show bv 1#8 = Value.int .u8 1 from rfl] at hst hb3; rw [one_put] at hst; have HS2 := Lib.hid hs2; clear hs2 hr2 hb2; have hb5 : Below w1.heap.size w1 ((w2.setCell ⟨w1.heap.size, i, none⟩ (.int .u8 1)).alloc (.cells #[.slice (some ⟨w1.heap.size, 0, none⟩) n n] 22)) := hb3.alloc hb3.size _; have hat := at_lit1 (w2.setCell ⟨w1.heap.size, i, none⟩ (.int .u8 1)) (.slice (some ⟨w1.heap.size, 0, none⟩) n n) 22; have hsz : (w2.setCell ⟨w1.heap.size, i, none⟩ (.int .u8 1)).heap.size = w2.heap.size := (by simp [World.setCell]); rw [hsz] at hat; clear hsz)
        | (at_builtin; refine app_head rfl (.tmp 22) (.tmp 24) rfl w.heap.size rfl ((HG.out.below hb5).own) rfl (news := [.slice (some ⟨w1.heap.size, 0, none⟩) n n]) rfl hat (by intro u hu; rw [List.mem_singleton] at hu; subst hu; rfl) (by simp) (by omega) (by have := hb5.size; omega) ?_; intro A4 c4 w4 ho4 hb4 hg4 hc4))
      have hR5 := hst.below (below1' _ (.cells #[.slice (some ⟨w1.heap.size, 0, none⟩) n n] 22)) hst.lt
      have hne5 : ∀ t, t < i → blk t ≠ w1.heap.size := fun t ht he => by have := (HG.out.row t ht).lt; omega
      have hG6 := (HG.out.below hb5).snoc (M := oneM) hR5 hzw hne5 ho4 hg4 rfl
      exact ⟨⟨i + 1, A4, c4, _, by omega, by go_num, rfl, hG6, (hb.trans (hb5.mono hzw)).trans hb4⟩, by simp [intOf]; omega⟩
    · obtain rfl : i = n := by omega
      go_wp2_with fail
      go_ret2
      exact ⟨_, _, _, rfl, hG, hb⟩

set_option maxHeartbeats 1000000 in
set_option maxRecDepth 100000 in
theorem rgener_calls {w : World} {K M : Nat} (hK1 : 1 ≤ K) (hKM : K + M ≤ 255) :
    Calls Tryd.prog 44 #[.agg #[.int .i64 (K : Int), .int .i64 (M : Int)]] w (RetO w (K + M) K (genM K)) := by
  have d1 : decide ((K : Int) < (1 : Int)) = false := decide_eq_false (by omega)
  have d2 : decide ((M : Int) < (0 : Int)) = false := decide_eq_false (by omega)
  have d3 : decide ((255 : Int) < (K : Int)) = false := decide_eq_false (by omega)
  have d4 : decide ((255 : Int) - (K : Int) < (M : Int)) = false := decide_eq_false (by omega)
  have hbw := below1' w (.cells #[.int .i64 (K : Int), .int .i64 (M : Int)] 38)
  have hk0 : (w.alloc (.cells #[.int .i64 (K : Int), .int .i64 (M : Int)] 38)).cell? ⟨w.heap.size, 0, none⟩ = some (.int .i64 (K : Int)) := cell_of_row _ _ 0 _ _ (0, 0) (heap_alloc_new w _)
  have hk1 : (w.alloc (.cells #[.int .i64 (K : Int), .int .i64 (M : Int)] 38)).cell? ⟨w.heap.size, 1, none⟩ = some (.int .i64 (M : Int)) := cell_of_row _ _ 1 _ _ (0, 0) (heap_alloc_new w _)
  go_enter Tryd.func44, Tryd.ntmps44
  go_wp2_with fail
  generalize w.alloc (.cells #[.int .i64 (K : Int), .int .i64 (M : Int)] 38) = w0 at *
  refine (rident_calls (w := w0) hK1 (by omega)).mono ?_
  rintro e w1 ⟨A1, c1, blk, rfl, hG, hb1⟩
  have hc0 := (hb1.cell (p := ⟨w.heap.size, 0, none⟩) (block_lt hk0)).trans hk0
  have hc1 := (hb1.cell (p := ⟨w.heap.size, 1, none⟩) (block_lt hk1)).trans hk1
  have hB1 : Below w.heap.size w w1 := hbw.trans (hb1.mono hbw.size)
  have hBB : w.heap.size + 1 ≤ w0.heap.size := block_lt hk0
  have hG1 := (hG.lower hBB).congr (N := genM K) (fun i j hi hj => by simp [genM, hi, oneM])
  have hw01 := hb1.size
  clear hk0 hk1 hb1 hbw hG
  go_wp2_with fail
  go_loopw [4, 38] (fun s4 s wr => ∃ (i : Nat) (A' : Option Addr) (cap : Nat) (blk : Nat → Nat), i ≤ M ∧ s = .int .i64 ((i : Nat) : Int) ∧ s4 = .slice A' (K + i) cap ∧ OwnG wr (w.heap.size + 1) A' cap blk (K + i) K (genM K) ∧ Below (w.heap.size + 1) w1 wr) (fun _ s _ => M - (intOf s).toNat)
  case atStart => exact ⟨0, A1, c1, blk, by omega, rfl, rfl, hG1, Below.refl _ _⟩
  case round =>
    obtain ⟨i, A', cap, blk, hi, rfl, rfl, hG, hb⟩ := hrel
    rename World => w3
    by_cases hin : i < M
    · have hii : (i : Int) < (M : Int) := by omega
      have HG := Lib.hid hG
      have hzw := hb.size
      have hc03 := (hb.cell (p := ⟨w.heap.size, 0, none⟩) (by simp)).trans hc0
      have hlt3 := block_lt hc03
      clear hG hG1
      go_wp2_with (refine make_row rfl (.tmp 42) (.tmp 42) rfl K rfl rfl rfl rfl (by omega) ?_; intro w4 hr4 hb4 hs4; have HR := Lib.hid hr4; clear hr4 hs4)
      go_loopw [46] (fun s wr => ∃ k : Nat, k ≤ K ∧ s = .int .i64 ((k : Nat) : Int) ∧ RowB wr w3.heap.size (rowL K (rowAt k (genM K (K + i)))) ∧ Below w3.heap.size w3 wr) (fun s _ => K - (intOf s).toNat)
      case atStart => exact ⟨0, by omega, rfl, by rw [rowAt_zero]; exact HR.out, hb4⟩
      case round =>
        obtain ⟨k, hk, rfl, hR, hbq⟩ := hrel
        have hc05 := (hbq.cell (p := ⟨w.heap.size, 0, none⟩) hlt3).trans hc03
        by_cases hkn : k < K
        · have hkk : (k : Int) < (K : Int) := by omega
          have H1 := Lib.hid (genM_low (k := k) (by omega : ¬ K + i < K))
          have hne := byte_ne (i := K + i) (k := k) (by omega) (by omega) (by omega)
          have Hi := byte_nat (i := K + i) (by omega)
          have Hk := byte_nat (i := k) (by omega)
          have hX := b8_xor (BitVec.ofNat 8 (K + i)) (BitVec.ofNat 8 k)
          rw [Hi, Hk, Int.natCast_add] at hX
          generalize BitVec.ofNat 8 (K + i) ^^^ BitVec.ofNat 8 k = z at *
          have HS := Lib.hid (rowAt_step k (genM K (K + i)))
          have hcs := hR.cell (rowL_get (f := rowAt k (genM K (K + i))) hkn)
          have hfs := hR.frozen k
          clear Hi Hk
          go_wp2_with fail
          refine (rinv_calls z hne).mono ?_
          rintro e w' ⟨rfl, rfl⟩
          go_wp2_with fail
          have hst := hR.put k (gi z)
          rw [← H1.out, HS.out] at hst
          rw [show Value.int .u8 ((gi z).toNat : Int) = bv (gi z) from rfl, ← H1.out]
          exact ⟨⟨k + 1, by omega, by go_num, hst, hbq.setCell (Nat.le_refl _) _⟩, by simp [intOf]; omega⟩
        · obtain rfl : K = k := by omega
          rw [rowAt_end] at hR
          have hb5 : Below w3.heap.size w3 (wr.alloc (.cells #[.slice (some ⟨w3.heap.size, 0, none⟩) K K] 22)) := hbq.alloc hbq.size _
          have hG5 := HG.out.below hb5
          have hR5 := hR.below (below1' wr (.cells #[.slice (some ⟨w3.heap.size, 0, none⟩) K K] 22)) hR.lt
          have hne5 : ∀ t, t < K + i → blk t ≠ w3.heap.size := fun t ht he => by have := (HG.out.row t ht).lt; omega
          have hlow : w.heap.size + 1 ≤ w3.heap.size := hlt3
          go_wp2_with (at_builtin; refine app_head rfl (.tmp 65) (.tmp 67) rfl (w.heap.size + 1) rfl hG5.own rfl (news := [.slice (some ⟨w3.heap.size, 0, none⟩) K K]) rfl (at_lit1 _ _ _) (by intro u hu; rw [List.mem_singleton] at hu; subst hu; rfl) (by simp) (by omega) (by have := hb5.size; omega) ?_; intro A4 c4 w4 ho4 hb4 hg4 hc4)
          have hG6 := hG5.snoc (M := genM K) hR5 hlow hne5 ho4 hg4 rfl
          exact ⟨⟨i + 1, A4, c4, _, by omega, by go_num, rfl, hG6, (hb.trans (hb5.mono hlow)).trans hb4⟩, by simp [intOf]; omega⟩
    · obtain rfl : M = i := by omega
      go_wp2_with fail
      go_ret2
      exact ⟨_, _, _, rfl, hG.lower (Nat.le_succ _), hB1.trans (hb.mono (Nat.le_succ _))⟩

end Go.Proofs.YtibidlgikecelaaDoor
