/- Contract: the law StripeUnits. -/
import Derived.Test.YtibidlgikecelaaDoorSA
namespace Go.Proofs.YtibidlgikecelaaDoor
open Go.RowKit
set_option linter.unusedVariables false
set_option linter.unusedSimpArgs false

/-- Where a byte stands. -/
theorem place_cut {K q p : Nat} (hK : 1 ≤ K) (h : p < 8 * q * K) : p / 8 % K < K ∧ p / (8 * K) * 8 + p % 8 < 8 * q ∧ (p / (8 * K) * 8 + p % 8) / 8 * 8 * K + p / 8 % K * 8 + (p / (8 * K) * 8 + p % 8) % 8 = p := by
  have ha : p / (8 * K) < q := by
    rw [Nat.div_lt_iff_lt_mul (by omega)]
    have : 8 * q * K = q * (8 * K) := by rw [Nat.mul_comm 8 q, Nat.mul_assoc]
    omega
  have h1 : p / (8 * K) = p / 8 / K := by rw [Nat.div_div_eq_div_mul]
  have h2 := Nat.div_add_mod (p / 8) K
  have h3 : (p / (8 * K) * 8 + p % 8) / 8 = p / (8 * K) := by omega
  have h4 : p / (8 * K) * 8 * K = 8 * (K * (p / 8 / K)) := by rw [h1, Nat.mul_comm (p / 8 / K) 8, Nat.mul_assoc, Nat.mul_comm (p / 8 / K) K]
  refine ⟨Nat.mod_lt _ (by omega), by omega, ?_⟩
  rw [h3, h4]
  omega

set_option maxHeartbeats 1000000 in
set_option maxRecDepth 100000 in
theorem stripeUnits_calls {w : World} {A : Option Addr} {na ca : Nat} {lb : List B8} {x y : Int} (hA : At w A (bys lb)) (hna : na = lb.length) (hma : lb.length ≤ 140737488351232) (hca : lb.length ≤ ca) (hF : FoldAt w) :
    Calls Tryd.prog 9 #[.int .i64 x, .int .i64 y, .slice A na ca] w (RetV w (.bool true)) := by
  obtain ⟨K, hK1, hK2, hKe⟩ := pick_add 1 x 12 (by decide) (by decide) (by decide)
  obtain ⟨M, hM2, hMe⟩ := pick_mod y 6 (by decide) (by decide)
  rw [Int.natCast_one] at hKe
  have HCO := fun (W : World) => Lib.hid (code_calls (w := W) (Lib.hid hKe) (Lib.hid hMe))
  clear hKe hMe
  have hK12 : K ≤ 12 := by omega
  have hM6 : M < 6 := by omega
  clear hK2 hM2
  subst hna
  have HC : ∃ l' : List B8, (lb.length ≤ 400 ∧ l' = lb ∨ 400 < lb.length ∧ l' = lb.take 400) := by
    rcases Nat.lt_or_ge 400 lb.length with h | h
    · exact ⟨_, .inr ⟨h, rfl⟩⟩
    · exact ⟨_, .inl ⟨h, rfl⟩⟩
  obtain ⟨l', hcase⟩ := HC
  go_enter Tryd.func9, Tryd.ntmps9
  go_wp2_with fail
  refine (HCO _).out.mono ?_
  rintro e w1 ⟨rfl, hb1⟩
  have hbw := below1' w1 (.cells #[.int .i64 (K : Int), .int .i64 (M : Int)] 38)
  have hk0 : (w1.alloc (.cells #[.int .i64 (K : Int), .int .i64 (M : Int)] 38)).cell? ⟨w1.heap.size, 0, none⟩ = some (.int .i64 (K : Int)) := cell_of_row _ _ 0 _ _ (0, 0) (heap_alloc_new w1 _)
  have hk1 : (w1.alloc (.cells #[.int .i64 (K : Int), .int .i64 (M : Int)] 38)).cell? ⟨w1.heap.size, 1, none⟩ = some (.int .i64 (M : Int)) := cell_of_row _ _ 1 _ _ (0, 0) (heap_alloc_new w1 _)
  have hBw := hb1.trans (hbw.mono hb1.size)
  rcases hcase with ⟨hlen, hl'⟩ | ⟨hlen, hl'⟩
  have hlb : (lb.length : Int) ≤ 400 := by omega
  go_wp2_with fail
  have hAl : At w A (bys l') := by rw [hl']; exact hA
  have hn' : lb.length = l'.length := by rw [hl']
  generalize lb.length = n' at *
  have hnc : n' ≤ ca := hca
  have hn4 : n' ≤ 400 := hlen
  clear hlb hlen hl' hca hma hA
  rotate_left
  have hlb : (400 : Int) < (lb.length : Int) := by omega
  have hsl : (400 : Nat) ≤ ca := by omega
  have hsl2 : (400 : Int) ≤ (ca : Int) := by omega
  go_wp2_with fail
  have hAl : At w A (bys l') := by rw [hl']; simpa [bys, List.map_take] using hA.take 400
  have hn' : 400 = l'.length := by rw [hl']; simp; omega
  clear hsl2 hlb hlen hl' hca hma hA
  have hn4 : (400 : Nat) ≤ 400 := Nat.le_refl _
  have hn4' : ∃ n' : Nat, n' = 400 := ⟨_, rfl⟩
  obtain ⟨n', hnn⟩ := hn4'
  rw [← hnn] at hn' hsl
  replace hn4 : n' ≤ 400 := by omega
  rw [← hnn]
  have hnc : n' ≤ ca := hsl
  clear hsl hnn
  all_goals
    have HCU := fun (W : World) (hW : Below w.heap.size w W) => Lib.hid (cut_calls (n := n') (c := ca) (hAl.below hW) hn' (by omega) (by omega) hK1 (by omega : K + M ≤ 255) (FoldAt.below hF hW))
    have HLE := fun (W : World) => Lib.hid (length_calls (w := W) (s := n') hK1 (by omega : K + M ≤ 255) hn4)
    generalize w1.alloc (.cells #[.int .i64 (K : Int), .int .i64 (M : Int)] 38) = w2 at *
    rw [← hn'] at HCU
    have hnn1 := lenS_le (s := n') hK1 hn4
    have hnn2 := lenS_pos K n'
    have hq8 : Hid (lenS K n' = 8 * (lenS K n' / 8)) := lenS_mul K n'
    generalize lenS K n' = nn at *
    refine (HCU _ hBw).out.mono ?_
    rintro e w3 ⟨A3, c3, blk, rfl, hG, hb3⟩
    have hQ : EqM K nn (mulM K (genM K) (cutD l' K)) (cutD l' K) := gen_top _
    generalize mulM K (genM K) (cutD l' K) = Q at *
    obtain ⟨g, rfl, hgB, hc0, hbg, hf0⟩ := hG.cell (i := 0) (by omega)
    have hle := hG.le
    have hB3 := hBw.trans (hb3.mono hBw.size)
    have hk03 := (hb3.cell (p := ⟨w1.heap.size, 0, none⟩) (block_lt hk0)).trans hk0
    have hk13 := (hb3.cell (p := ⟨w1.heap.size, 1, none⟩) (block_lt hk1)).trans hk1
    have hnnI : ((nn : Int) != (nn : Int)) = false := by simp
    have hKMI : ((K : Int) + (M : Int) != (K : Int) + (M : Int)) = false := by simp
    have hmu : (nn : Int) * (K : Int) = ((nn * K : Nat) : Int) := by simp
    have hmu2 : nn * K ≤ 1000 * 12 := Nat.mul_le_mul hnn1 hK12
    have HNN : Hid (nn * K = 8 * (nn / 8) * K) := Lib.hid (by rw [show 8 * (nn / 8) = nn by have := hq8.out; omega])
    generalize hNe : nn * K = N at *
    clear hNe
    clear hf0 hbw hBw hk0 hk1 HCU HCO
    have HN := Lib.hid hn'
    clear hn'
    go_wp2_with fail
    refine (HLE _).out.mono ?_
    rintro e w4 ⟨rfl, hb4⟩
    have hG4 := hG.below hb4
    have hB4 := hB3.trans (hb4.mono hB3.size)
    have hk04 := (hb4.cell (p := ⟨w1.heap.size, 0, none⟩) (block_lt hk03)).trans hk03
    have hA4 := hAl.below hB4
    clear hG hb4 hB3 hk03 hk13 HLE hc0 hAl
    go_wp2_with fail
    go_loopw [48] (fun s wr => ∃ p : Nat, p ≤ N ∧ s = .int .i64 ((p : Nat) : Int) ∧ wr = w4) (fun s _ => N - (intOf s).toNat)
    case atStart => exact ⟨0, Nat.zero_le _, rfl, rfl⟩
    case round =>
      obtain ⟨p, hp, rfl, rfl⟩ := hrel
      by_cases hpN : p < N
      · have hpi : (p : Int) < (N : Int) := by omega
        obtain ⟨hr, hj, hpl⟩ := place_cut (K := K) (q := nn / 8) hK1 (by rw [← HNN.out]; exact hpN)
        rw [← hq8.out] at hj
        have hrI : (p : Int) / 8 % (K : Int) = ((p / 8 % K : Nat) : Int) := by rw [Int.natCast_emod, Int.natCast_ediv]; rfl
        have haI : (p : Int) / (8 * (K : Int)) = ((p / (8 * K) : Nat) : Int) := by rw [Int.natCast_ediv, Int.natCast_mul]; rfl
        have hjI : ((p / (8 * K) : Nat) : Int) * 8 + (p : Int) % 8 = ((p / (8 * K) * 8 + p % 8 : Nat) : Int) := by omega
        have hQp : Q (p / 8 % K) (p / (8 * K) * 8 + p % 8) = l'.getD p 0#8 := by
          rw [hQ _ _ hr hj]
          unfold cutD
          rw [hpl]
        generalize p / (8 * K) * 8 + p % 8 = j at *
        generalize p / (8 * K) = a at *
        generalize p / 8 % K = r at *
        obtain ⟨_, he, _, hcr, _, _⟩ := hG4.cell (i := r) (by omega)
        cases he
        have hby := (hG4.row r (by omega)).cell (rowL_get (f := Q r) hj)
        rw [hQp] at hby
        have hrKM : (r : Int) < (K : Int) + (M : Int) := by omega
        have hjn : (j : Int) < (nn : Int) := by omega
        have ha1 : (a : Int) ≤ 100000 := by omega
        clear hQp hpl hG4
        by_cases hpn : p < n'
        · have hpnI : (p : Int) < (n' : Int) := by omega
          have hpl' : p < l'.length := by rw [← HN.out]; exact hpn
          obtain ⟨bA, oA, rfl, hcb⟩ := hA4.byte hpl'
          rw [show l'[p] = l'.getD p 0#8 by rw [List.getD_eq_getElem?_getD, List.getElem?_eq_getElem hpl']; rfl] at hcb
          generalize l'.getD p 0#8 = z at *
          have hzz : ((z.toNat : Int) != (z.toNat : Int)) = false := by simp
          clear hA4 hpl'
          go_wp2_with fail
          exact ⟨⟨p + 1, by omega, by go_num, trivial⟩, by simp [intOf]; omega⟩
        · have hpnI : ¬ (p : Int) < (n' : Int) := by omega
          rw [show l'.getD p 0#8 = 0#8 by rw [List.getD_eq_getElem?_getD, List.getElem?_eq_none (by rw [← HN.out]; omega)]; rfl] at hby
          have hby0 : wr.cell? ⟨blk r, j, none⟩ = some (.int .u8 0) := hby
          clear hA4 hby
          go_wp2_with fail
          exact ⟨⟨p + 1, by omega, by go_num, trivial⟩, by simp [intOf]; omega⟩
      · have hpe : p = N := by omega
        have hpi : ¬ (p : Int) < (N : Int) := by omega
        clear hpe
        go_wp2_with fail
        go_ret
        exact ⟨rfl, hB4⟩

end Go.Proofs.YtibidlgikecelaaDoor
