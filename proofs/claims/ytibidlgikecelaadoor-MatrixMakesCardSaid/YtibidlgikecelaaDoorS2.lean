/- Contract: stripe.units with stripe.Cut's closure. -/
import Derived.Test.YtibidlgikecelaaDoorS1
namespace Go.Proofs.YtibidlgikecelaaDoor
open Go.RowKit
set_option linter.unusedVariables false
set_option linter.unusedSimpArgs false

/-- A blob's data, cut by units. -/
def cutD (lb : List B8) (K : Nat) : Mx := fun r j => lb.getD (j / 8 * 8 * K + r * 8 + j % 8) 0#8
/-- They in the making: u stripes, and k units of the next one. -/
def cutM (lb : List B8) (K u k : Nat) : Mx := fun r j => if j < 8 * u ∨ (j < 8 * u + 8 ∧ r < k) then cutD lb K r j else 0#8
theorem cutM_start (lb : List B8) (K : Nat) (r : Nat) : cutM lb K 0 0 r = fun _ => 0#8 := by
  funext j
  unfold cutM
  rw [if_neg (by omega)]
theorem cutM_step (lb : List B8) (K u k : Nat) : cut1 lb (8 * u * K + k * 8) (8 * u) (cutM lb K u k k) = cutM lb K u (k + 1) k := by
  funext j
  unfold cut1
  by_cases h1 : 8 * u ≤ j ∧ j < 8 * u + 8
  · have hd : j / 8 = u := by omega
    have hm : j % 8 = j - 8 * u := by omega
    have hi : cutD lb K k j = lb.getD (8 * u * K + k * 8 + (j - 8 * u)) 0#8 := by
      unfold cutD
      rw [hd, hm, Nat.mul_comm u 8]
    have h2 : cutM lb K u (k + 1) k j = cutD lb K k j := by
      unfold cutM
      rw [if_pos (by omega)]
    rw [h2, hi]
    by_cases h3 : 8 * u * K + k * 8 + (j - 8 * u) < lb.length
    · rw [if_pos ⟨h1.1, h1.2, h3⟩]
    · rw [if_neg (fun h => h3 h.2.2)]
      unfold cutM
      rw [if_neg (by omega), List.getD_eq_getElem?_getD, List.getElem?_eq_none (by omega)]
      rfl
  · rw [if_neg (fun h => h1 ⟨h.1, h.2.1⟩)]
    unfold cutM
    by_cases h2 : j < 8 * u
    · rw [if_pos (.inl h2), if_pos (.inl h2)]
    · rw [if_neg (by omega), if_neg (by omega)]
theorem cutM_other (lb : List B8) {K u k r : Nat} (h : r ≠ k) : cutM lb K u (k + 1) r = cutM lb K u k r := by
  funext j
  unfold cutM
  by_cases h1 : j < 8 * u ∨ (j < 8 * u + 8 ∧ r < k)
  · rw [if_pos h1, if_pos (by omega)]
  · rw [if_neg h1, if_neg (by omega)]
theorem cutM_round (lb : List B8) {K u r : Nat} (h : r < K) : cutM lb K u K r = cutM lb K (u + 1) 0 r := by
  funext j
  unfold cutM
  by_cases h1 : j < 8 * u + 8
  · rw [if_pos (by omega), if_pos (by omega)]
  · rw [if_neg (by omega), if_neg (by omega)]
theorem cutM_end (lb : List B8) (K q r : Nat) : rowL (8 * q) (cutM lb K q 0 r) = rowL (8 * q) (cutD lb K r) := rowL_congr fun j hj => by
  unfold cutM
  rw [if_pos (.inl hj)]

set_option maxHeartbeats 1000000 in
set_option maxRecDepth 100000 in
theorem unitsCut_calls {w : World} {B pb pd g c nn q K M : Nat} {blk : Nat → Nat} {A : Option Addr} {lb : List B8} (hpb : w.cell? ⟨pb, 0, none⟩ = some (.slice A lb.length c)) (hA : ∀ wr, Below B w wr → At wr A (bys lb)) (hc : lb.length ≤ c) (hla : lb.length ≤ 400)
    (hpd : w.cell? ⟨pd, 0, none⟩ = some (.slice (some ⟨g, 0, none⟩) K K)) (hg : ∀ k, k < K → w.cell? ⟨g, k, none⟩ = some (.slice (some ⟨blk k, 0, none⟩) nn nn)) (hR : ∀ k, k < K → RowB w (blk k) (rowL nn fun _ => 0#8))
    (hinj : ∀ i j, i < K → j < K → blk i = blk j → i = j) (hgB : ∀ k, k < K → B ≤ blk k) (hBw : B ≤ w.heap.size) (hpbB : pb < B) (hpdB : pd < B) (hgBB : g < B) (hnq : Hid (nn = 8 * q)) (hnn : nn ≤ 1000) (hK : K ≤ 255) :
    Calls Tryd.prog 73 #[.agg #[.int .i64 (K : Int), .int .i64 (M : Int)], .int .i64 (nn : Int), .func (.func 74) #[] #[.pointer (some ⟨pb, 0, none⟩), .pointer (some ⟨pd, 0, none⟩)]] w
      fun e w' => e = .returned (.tuple #[]) ∧ Below B w w' ∧ ∀ k, k < K → RowB w' (blk k) (rowL nn (cutD lb K k)) := by
  have hb1 := below1' w (.cells #[.int .i64 (K : Int), .int .i64 (M : Int)] 38)
  have hk0 : (w.alloc (.cells #[.int .i64 (K : Int), .int .i64 (M : Int)] 38)).cell? ⟨w.heap.size, 0, none⟩ = some (.int .i64 (K : Int)) := cell_of_row _ _ 0 _ _ (0, 0) (heap_alloc_new w _)
  go_enter Tryd.func73, Tryd.ntmps73
  go_wp2_with fail
  generalize w.alloc (.cells #[.int .i64 (K : Int), .int .i64 (M : Int)] 38) = w1 at *
  have hbsz := hb1.size
  have hrl : ∀ k, k < K → blk k < w.heap.size := fun k hk => (hR k hk).lt
  have hR1 : ∀ k, k < K → RowB w1 (blk k) (rowL nn (cutM lb K 0 0 k)) := fun k hk => by rw [cutM_start]; exact (hR k hk).below hb1 (hrl k hk)
  have hB1 : Below B w w1 := hb1.mono hBw
  clear hb1 hR
  go_loopw [6] (fun s wr => ∃ u o : Nat, u ≤ q ∧ o ≤ nn ∧ Hid (o = 8 * u) ∧ s = .int .i64 ((o : Nat) : Int) ∧ (∀ k, k < K → RowB wr (blk k) (rowL nn (cutM lb K u 0 k))) ∧ Below B w wr ∧ wr.cell? ⟨w.heap.size, 0, none⟩ = some (.int .i64 (K : Int)) ∧ w.heap.size < wr.heap.size) (fun s _ => nn - (intOf s).toNat)
  case atStart => exact ⟨0, 0, Nat.zero_le _, Nat.zero_le _, rfl, rfl, hR1, hB1, hk0, block_lt hk0⟩
  case round =>
    obtain ⟨u, o, hu, ho, HO, rfl, hRr, hBr, hkr, hsr⟩ := hrel
    rename World => w2
    clear hR1 hB1 hk0
    by_cases huq : o < nn
    · have hoi : (o : Int) < (nn : Int) := by omega
      have hu8 : o + 8 ≤ nn := by rw [hnq.out] at huq ⊢; rw [HO.out] at huq ⊢; omega
      have huq2 : u + 1 ≤ q := by rw [hnq.out] at hu8; rw [HO.out] at hu8; omega
      have hoK : (o : Int) * (K : Int) = ((o * K : Nat) : Int) := by simp
      have hoK2 : o * K ≤ 1000 * 255 := Nat.mul_le_mul (by omega) hK
      generalize hpe : o * K = p at *
      have HP := Lib.hid hpe
      clear hpe
      go_wp2_with fail
      go_loopw [15] (fun s wr => ∃ k : Nat, k ≤ K ∧ s = .int .i64 ((k : Nat) : Int) ∧ (∀ r, r < K → RowB wr (blk r) (rowL nn (cutM lb K u k r))) ∧ Below B w wr ∧ wr.cell? ⟨w.heap.size, 0, none⟩ = some (.int .i64 (K : Int)) ∧ w.heap.size < wr.heap.size) (fun s _ => K - (intOf s).toNat)
      case atStart => exact ⟨0, Nat.zero_le _, rfl, hRr, hBr, hkr, hsr⟩
      case round =>
        obtain ⟨k, hkK, rfl, hR3, hB3, hk3, hs3⟩ := hrel
        clear hRr hBr hkr hsr
        by_cases hkl : k < K
        · have hki : (k : Int) < (K : Int) := by omega
          have HCL := cut1_calls (at' := p + k * 8) (off := o) (k := k) ((hB3.cell (p := ⟨pb, 0, none⟩) hpbB).trans hpb) (hA wr hB3) hc hla ((hB3.cell (p := ⟨pd, 0, none⟩) hpdB).trans hpd) hkl ((hB3.cell (p := ⟨g, k, none⟩) hgBB).trans (hg k hkl)) (hR3 k hkl) hu8 hnn (by omega) hK
            (by have := hgB k hkl; omega) (by have := hgB k hkl; omega) (by have := hgB k hkl; omega)
          rw [show ((p + k * 8 : Nat) : Int) = (p : Int) + (k : Int) * 8 by omega] at HCL
          replace HCL := Lib.hid HCL
          go_wp2_with fail
          refine HCL.out.mono ?_
          rintro e w4 ⟨rfl, hg4, hr4⟩
          have hblk := hgB k hkl
          have hrk := hrl k hkl
          have hR4 : ∀ r, r < K → RowB w4 (blk r) (rowL nn (cutM lb K u (k + 1) r)) := fun r hr => by
            by_cases hrk' : r = k
            · subst hrk'
              rw [← cutM_step, ← HO.out, HP.out]
              exact hr4
            · rw [cutM_other lb hrk']
              exact (hR3 r hr).grown hg4 (by simp only [ne_eq, Option.some.injEq]; exact fun h => hrk' (hinj _ _ hr hkl h))
          have hB4 := below_of_grown (B := B) hg4 (Nat.le_trans hBw hB3.size) (by intro t ht; cases ht; exact hblk)
          have hB5 := hB3.trans hB4
          have hk4 := hg4.cell hk3 (by simp; omega)
          have hs4 := block_lt hk4
          clear HCL hR3 hB3 hk3 hg4 hr4
          go_wp2_with fail
          exact ⟨⟨k + 1, by omega, by go_num, hR4, hB5, hk4, hs4⟩, by simp [intOf]; omega⟩
        · obtain rfl : k = K := by omega
          have hR4 : ∀ r, r < k → RowB wr (blk r) (rowL nn (cutM lb k (u + 1) 0 r)) := fun r hr => by rw [← cutM_round lb hr]; exact hR3 r hr
          have HO2 : Hid (o + 8 = 8 * (u + 1)) := Lib.hid (by rw [HO.out]; omega)
          go_wp2_with fail
          exact ⟨⟨u + 1, o + 8, huq2, hu8, HO2, by go_num, hR4, hB3, hk3, hs3⟩, by simp [intOf]; omega⟩
    · have hoq : o = nn := by omega
      have hoi : ¬ (o : Int) < (nn : Int) := by omega
      have huq : u = q := by have h1 := HO.out; have h2 := hnq.out; omega
      have hRf : ∀ k, k < K → RowB w2 (blk k) (rowL nn (cutD lb K k)) := fun k hk => by
        have := hRr k hk
        rw [huq] at this
        rw [hnq.out] at this ⊢
        rwa [cutM_end] at this
      clear hoq huq
      go_wp2_with fail
      go_end0
      exact ⟨rfl, hBr, hRf⟩

end Go.Proofs.YtibidlgikecelaaDoor
