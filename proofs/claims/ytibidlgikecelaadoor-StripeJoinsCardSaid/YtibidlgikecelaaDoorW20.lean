/- Contract: matrix.Generator. -/
import Derived.Test.YtibidlgikecelaaDoorW17
namespace Go.Proofs.YtibidlgikecelaaDoor
open Go.RowKit
set_option linter.unusedVariables false
set_option linter.unusedSimpArgs false

theorem genM_one {K i : Nat} (h : i < K) : genM K i i = 1#8 := by simp [genM, h]
theorem genM_zero {K i k : Nat} (h : i < K) (hk : i ≠ k) : genM K i k = 0#8 := by simp [genM, h, hk]
theorem genM_low {K i k : Nat} (h : ¬ i < K) : genM K i k = gi (BitVec.ofNat 8 i ^^^ BitVec.ofNat 8 k) := by simp [genM, h]
theorem byte_nat {i : Nat} (h : i < 256) : ((BitVec.ofNat 8 i).toNat : Int) = (i : Int) := by
  rw [BitVec.toNat_ofNat, Nat.mod_eq_of_lt h]
theorem byte_ne {i k : Nat} (hi : i < 256) (hk : k < 256) (h : i ≠ k) : BitVec.ofNat 8 i ^^^ BitVec.ofNat 8 k ≠ 0#8 := by
  intro he
  refine ofNat8_ne hi hk h ?_
  have := congrArg (fun x => x ^^^ BitVec.ofNat 8 k) he
  simpa [BitVec.xor_assoc] using this

set_option maxHeartbeats 800000 in
set_option maxRecDepth 100000 in
theorem gener_calls {w : World} {K M : Nat} (hK1 : 1 ≤ K) (hKM : K + M ≤ 255) (hF : FoldAt w) :
    Calls Tryd.prog 31 #[.agg #[.int .i64 (K : Int), .int .i64 (M : Int)]] w (RetM w (K + M) K (genM K)) := by
  have d1 : decide ((K : Int) < (1 : Int)) = false := decide_eq_false (by omega)
  have d2 : decide ((M : Int) < (0 : Int)) = false := decide_eq_false (by omega)
  have d3 : decide ((255 : Int) < (K : Int)) = false := decide_eq_false (by omega)
  have d4 : decide ((255 : Int) - (K : Int) < (M : Int)) = false := decide_eq_false (by omega)
  have hbw := below1' w (.cells #[.int .i64 (K : Int), .int .i64 (M : Int)] 38)
  have hk0 : (w.alloc (.cells #[.int .i64 (K : Int), .int .i64 (M : Int)] 38)).cell? ⟨w.heap.size, 0, none⟩ = some (.int .i64 (K : Int)) := cell_of_row _ _ 0 _ _ (0, 0) (heap_alloc_new w _)
  have hk1 : (w.alloc (.cells #[.int .i64 (K : Int), .int .i64 (M : Int)] 38)).cell? ⟨w.heap.size, 1, none⟩ = some (.int .i64 (M : Int)) := cell_of_row _ _ 1 _ _ (0, 0) (heap_alloc_new w _)
  have hsz : (w.alloc (.cells #[.int .i64 (K : Int), .int .i64 (M : Int)] 38)).heap.size = w.heap.size + 1 := by simp
  go_enter Tryd.func31, Tryd.ntmps31
  go_wp2_with fail
  generalize w.alloc (.cells #[.int .i64 (K : Int), .int .i64 (M : Int)] 38) = w0 at *
  refine (show Calls Tryd.prog 60 #[.int .i64 ((K : Int) + (M : Int)), .int .i64 (K : Int)] w0 _ from (by have h := grid_calls (w := w0) (r := K + M) (c := K) (by omega) (by omega); rw [Int.natCast_add] at h; exact h)).mono ?_
  rintro e w1 ⟨g, blk, rfl, hG, hb1⟩
  have hc0 := (hb1.cell (p := ⟨w.heap.size, 0, none⟩) (by simp; omega)).trans hk0
  have hB1 : Below w.heap.size w w1 := hbw.trans (hb1.mono (by omega))
  replace hG := hG.lower (B' := w.heap.size + 1) (by omega)
  have hz1 := hb1.size
  clear hk0 hk1 hb1 hbw
  have hz2 : w.heap.size + 1 ≤ w1.heap.size := by omega
  go_wp2_with fail
  go_loopw [39] (fun s wr => ∃ i : Nat, i ≤ K + M ∧ s = .int .i64 ((i : Nat) : Int) ∧ Grid wr (w.heap.size + 1) g blk (K + M) K (cellAt i 0 (genM K)) ∧ Below (w.heap.size + 1) w1 wr) (fun s _ => K + M - (intOf s).toNat)
  case atStart => exact ⟨0, by omega, rfl, by rw [cellAt_start]; exact hG, Below.refl _ _⟩
  case round =>
    obtain ⟨i, hi, rfl, hGr, hBr⟩ := hrel
    clear hG
    by_cases hin : i < K + M
    · have hii : (i : Int) < (K : Int) + (M : Int) := by omega
      have hcg := hGr.cell hin
      go_wp2_with fail
      go_loopw [46] (fun s wr => ∃ k : Nat, k ≤ K ∧ s = .int .i64 ((k : Nat) : Int) ∧ Grid wr (w.heap.size + 1) g blk (K + M) K (cellAt i k (genM K)) ∧ Below (w.heap.size + 1) w1 wr) (fun s _ => K - (intOf s).toNat)
      case atStart => exact ⟨0, by omega, rfl, hGr, hBr⟩
      case round =>
        obtain ⟨k, hk, rfl, hGs, hBs⟩ := hrel
        clear hGr hBr hcg
        by_cases hkn : k < K
        · have hkk : (k : Int) < (K : Int) := by omega
          have hbox := (hBs.cell (p := ⟨w.heap.size, 0, none⟩) (by simp)).trans hc0
          have hby := (hGs.row i hin).cell (rowL_get (c := K) (f := cellAt i k (genM K) i) hkn)
          have hfz := (hGs.row i hin).frozen k
          have hbl := hGs.geB i hin
          have HS := Lib.hid (cellAt_step i k (genM K))
          by_cases hiK : i < K
          · have hge : decide ((K : Int) ≤ (i : Int)) = false := decide_eq_false (by omega)
            by_cases hik : i = k
            · have heq : ((i : Int) == (k : Int)) = true := by simp; omega
              have H1 := Lib.hid (by rw [← hik]; exact genM_one hiK : genM K i k = 1#8)
              clear hik
              go_wp2_with fail
              have hG2 := hGs.put hin k 1#8
              have HS1 : (putR (cellAt i k (genM K)) i fun j => if j = k then 1#8 else cellAt i k (genM K) i j) = cellAt i (k + 1) (genM K) := by
                have h := HS.out
                rw [H1.out] at h
                exact h
              rw [HS1] at hG2
              exact ⟨⟨k + 1, by omega, by go_num, hG2, hBs.setCell hbl _⟩, by simp [intOf]; omega⟩
            · have heq : ((i : Int) == (k : Int)) = false := by simp; omega
              have H1 := Lib.hid (cellAt_same i k (genM K) (genM_zero hiK hik))
              clear hik
              go_wp2_with fail
              exact ⟨⟨k + 1, by omega, by go_num, by rw [← H1.out]; exact hGs, hBs⟩, by simp [intOf]; omega⟩
          · have hge : decide ((K : Int) ≤ (i : Int)) = true := decide_eq_true (by omega)
            have H1 := Lib.hid (genM_low (k := k) hiK)
            have hne := byte_ne (i := i) (k := k) (by omega) (by omega) (by omega)
            have Hi := Lib.hid (byte_nat (i := i) (by omega))
            have Hk := Lib.hid (byte_nat (i := k) (by omega))
            generalize BitVec.ofNat 8 i = x at *
            generalize BitVec.ofNat 8 k = y at *
            have hBw : Below w.heap.size w wr := hB1.trans (hBs.mono (Nat.le_succ _))
            go_wp2_with fail
            refine (show Calls Tryd.prog 72 #[.int .u8 (i : Int), .int .u8 (k : Int)] wr _ from (by have h := add_calls (w := wr) x y; rw [Hi.out, Hk.out] at h; exact h)).mono ?_
            generalize x ^^^ y = z at *
            rintro e w' ⟨rfl, rfl⟩
            go_wp2_with fail
            refine (inv_calls z (FoldAt.below hF hBw) hne).mono ?_
            rintro e w4 ⟨rfl, hb4⟩
            have hG4 := hGs.below hb4
            have hcs := (hG4.row i hin).cell (rowL_get (c := K) (f := cellAt i k (genM K) i) hkn)
            have hfs := (hG4.row i hin).frozen k
            go_wp2_with fail
            have hG2 := hG4.put hin k (gi z)
            rw [← H1.out, HS.out] at hG2
            exact ⟨⟨k + 1, by omega, by go_num, by rw [← H1.out]; exact hG2, (hBs.trans (hb4.mono (Nat.le_trans hz2 hBs.size))).setCell hbl _⟩, by simp [intOf]; omega⟩
        · obtain rfl : K = k := by omega
          have HN := Lib.hid (cellAt_next i K (genM K) (K + M))
          go_wp2_with fail
          exact ⟨⟨i + 1, by omega, by go_num, hGs.congr HN.out, hBs⟩, by simp [intOf]; omega⟩
    · obtain hiR : i = K + M := by omega
      have hnb : ¬ ((i : Int) < (K : Int) + (M : Int)) := by omega
      rw [hiR] at hGr
      clear hiR
      go_wp2_with fail
      go_ret2
      exact ⟨g, blk, rfl, (hGr.lower (Nat.le_succ _)).congr (cellAt_end _ _ _), hB1.trans (hBr.mono (Nat.le_succ _))⟩

end Go.Proofs.YtibidlgikecelaaDoor
