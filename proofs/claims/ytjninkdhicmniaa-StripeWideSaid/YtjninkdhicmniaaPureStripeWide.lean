/- StripeWide: for every k, m and size the law amphoralaw04.StripeWide returns true: shards are as long as it takes, and no longer. No condition. -/
import Derived.Test.YtjninkdhicmniaaPStripeWidex1
namespace Go.Proofs.Ytjninkdhicmniaa.Pure
open Go.RowKit Go.Proofs.Ytjninkdhicmniaa.PStripeWide Go.Proofs.YtjninkdhicmniaaW.PrintWords Go.Proofs.YtjninkdhicmniaaW.PrintLast

theorem u64_rem (a m : Int) (h : 0 < m) (h2 : m ≤ 1000) : 0 ≤ Int.tmod (IntKind.u64.wrap a) m ∧ Int.tmod (IntKind.u64.wrap a) m < m ∧ wrap64 (Int.tmod (IntKind.u64.wrap a) m) = Int.tmod (IntKind.u64.wrap a) m := by
  have h0 : 0 ≤ IntKind.u64.wrap a := by
    simp [IntKind.wrap, IntKind.bits, IntKind.signed]
    omega
  rw [Int.tmod_eq_emod_of_nonneg h0]
  have h1 := Int.emod_nonneg (IntKind.u64.wrap a) (by omega : m ≠ 0)
  have h3 := Int.emod_lt_of_pos (IntKind.u64.wrap a) h
  refine ⟨h1, h3, ?_⟩
  unfold wrap64
  omega

theorem wrap64_in (x : Int) (h : -1000000 ≤ x) (h2 : x ≤ 1000000) : wrap64 x = x := by unfold wrap64; omega

theorem core (K s q : Int) (hK : 1 ≤ K) (hK2 : K ≤ 12) (hs : 0 ≤ s) (hs2 : s ≤ 400) (hq : q = (s + K * 8 - 1) / (K * 8)) :
    0 ≤ q ∧ q ≤ 60 ∧ s ≤ 8 * mx 1 q * K ∧ (8 * mx 1 q - 8) * K < mx s 1 ∧ mx 1 q ≤ 60 ∧ 1 ≤ mx 1 q := by
  unfold mx
  have : K = 1 ∨ K = 2 ∨ K = 3 ∨ K = 4 ∨ K = 5 ∨ K = 6 ∨ K = 7 ∨ K = 8 ∨ K = 9 ∨ K = 10 ∨ K = 11 ∨ K = 12 := by omega
  rcases this with rfl | rfl | rfl | rfl | rfl | rfl | rfl | rfl | rfl | rfl | rfl | rfl <;> (refine ⟨?_, ?_, ?_, ?_, ?_, ?_⟩ <;> (repeat' split) <;> omega)

theorem StripeWide : amphoralaw04_StripeWide.Pure := by
  intro a0 a1 a2 _ _ _
  obtain ⟨k0, k1, k2⟩ := u64_rem a0 12 (by omega) (by omega)
  obtain ⟨m0, m1, m2⟩ := u64_rem a1 6 (by omega) (by omega)
  obtain ⟨s0, s1, s2⟩ := u64_rem a2 401 (by omega) (by omega)
  unfold amphoralaw04_StripeWide.f amphoralaw04_code.f
  rw [k2, m2, s2]
  generalize Int.tmod (IntKind.u64.wrap a0) 12 = k at *
  generalize Int.tmod (IntKind.u64.wrap a1) 6 = m at *
  generalize Int.tmod (IntKind.u64.wrap a2) 401 = s at *
  simp only [Option.bind_some]
  rw [wrap64_in (1 + k) (by omega) (by omega)]
  have hK : 1 ≤ 1 + k ∧ 1 + k ≤ 12 := by omega
  generalize 1 + k = K at *
  obtain ⟨hK1, hK2⟩ := hK
  have e : Int.tdiv (s + K * 8 - 1) (K * 8) = (s + K * 8 - 1) / (K * 8) := Int.tdiv_eq_ediv_of_nonneg (by omega)
  obtain ⟨c1, c2, c3, c4, c5, c6⟩ := core K s _ hK1 hK2 (by omega) (by omega) e
  have hc : reed_Can.f K m = some true := by
    unfold reed_Can.f
    rw [if_pos (by omega), if_pos (by omega), if_pos (by omega), wrap64_in (255 - K) (by omega) (by omega), decide_eq_true (by omega)]
  unfold stripe_Length.f
  rw [hc]
  simp only [Option.bind_some, if_true]
  rw [wrap64_in (K * 8) (by omega) (by omega), if_neg (by omega), if_neg (by omega), if_neg (by omega), wrap64_in (s + K * 8) (by omega) (by omega), wrap64_in (s + K * 8 - 1) (by omega) (by omega)]
  generalize Int.tdiv (s + K * 8 - 1) (K * 8) = q at *
  rw [wrap64_in q (by omega) (by omega)]
  generalize mx 1 q = r at *
  rw [wrap64_in (8 * r) (by omega) (by omega)]
  simp only [Option.bind_some]
  have hb : 0 ≤ 8 * r * K ∧ 8 * r * K ≤ 480 * 12 := ⟨Int.mul_nonneg (by omega) (by omega), by
    have h1 : 8 * r * K ≤ 480 * K := Int.mul_le_mul_of_nonneg_right (by omega) (by omega)
    omega⟩
  have hb2 : (8 * r - 8) * K = 8 * r * K - 8 * K := by rw [Int.sub_mul]
  rw [if_pos (by omega), if_pos (by rw [Int.tmod_eq_emod_of_nonneg (by omega)]; omega), wrap64_in (8 * r * K) (by omega) (by omega), if_pos (by omega), wrap64_in (8 * r - 8) (by omega) (by omega), wrap64_in ((8 * r - 8) * K) (by omega) (by omega), decide_eq_true c4]

end Go.Proofs.Ytjninkdhicmniaa.Pure
