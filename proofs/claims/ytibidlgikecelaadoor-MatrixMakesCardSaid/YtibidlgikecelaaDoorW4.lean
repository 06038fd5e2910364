/- Contracts: the document's quotients (amphoraref01.Div, Inv). -/
import Derived.Test.YtibidlgikecelaaDoorW3
namespace Go.Proofs.YtibidlgikecelaaDoor
open Go.RowKit
set_option linter.unusedVariables false
set_option linter.unusedSimpArgs false

set_option maxHeartbeats 400000 in
set_option maxRecDepth 100000 in
theorem rdiv_calls {w : World} (b : B8) (hb : b ≠ 0#8) : Calls Tryd.prog 95 #[.int .u8 1, .int .u8 (b.toNat : Int)] w fun e w' => e = .returned (.tuple #[.int .u8 ((gi b).toNat : Int), .int .i64 0]) ∧ w = w' := by
  have h0 : ((b.toNat : Int) == 0) = false := by
    have : b.toNat ≠ 0 := fun h => hb (BitVec.eq_of_toNat_eq (by simpa using h))
    simp; omega
  have hu : ∀ k : Nat, k < 256 → gm (BitVec.ofNat 8 k) b = 1#8 → k = (gi b).toNat := by
    intro k hk h
    have := gi_unique (a := b) (b := BitVec.ofNat 8 k) (by rw [gm_comm]; exact h)
    rw [← this]; simp; omega
  have hg := gi_gm b hb
  have hlt := (gi b).isLt
  generalize gi b = r at *
  have HU := Lib.hid hu
  have HG := Lib.hid hg
  clear hu hg
  go_enter Tryd.func95, Tryd.ntmps95
  go_wp2_with fail
  go_loop [9] (fun s => ∃ k : Nat, k ≤ r.toNat ∧ s = .int .i64 ((k : Nat) : Int)) (fun s => 256 - (intOf s).toNat)
  case atStart => exact ⟨0, by omega, rfl⟩
  case round =>
    obtain ⟨k, hk, rfl⟩ := hrel
    have hki : (k : Int) < 256 := by omega
    have hk8 : ((BitVec.ofNat 8 k).toNat : Int) = (k : Int) := by simp; omega
    have hc := rmul_calls (w := w) (BitVec.ofNat 8 k) b
    rw [hk8] at hc
    by_cases hg : gm (BitVec.ofNat 8 k) b = 1#8
    · have hkr := HU.out k (by omega) hg
      rw [hg] at hc
      have HC := Lib.hid hc
      have HK := Lib.hid hkr
      clear hc hg hkr hk8
      go_wp2_with fail
      refine HC.out.mono ?_
      rintro e w' ⟨rfl, rfl⟩
      go_wp2_with fail
      go_ret2
      exact ⟨by rw [← HK.out]; rfl, rfl⟩
    · have hq : (((gm (BitVec.ofNat 8 k) b).toNat : Int) == 1) = false := by
        have : (gm (BitVec.ofNat 8 k) b).toNat ≠ 1 := fun h => hg (BitVec.eq_of_toNat_eq (by simpa using h))
        simp; omega
      have hkr : k < r.toNat := by
        rcases Nat.lt_or_ge k r.toNat with h | h
        · exact h
        · have : BitVec.ofNat 8 k = r := BitVec.eq_of_toNat_eq (by simp; omega)
          rw [this] at hg
          exact absurd HG.out hg
      generalize gm (BitVec.ofNat 8 k) b = g at *
      have HC := Lib.hid hc
      clear hc hg hk8
      go_wp2_with fail
      refine HC.out.mono ?_
      rintro e w' ⟨rfl, rfl⟩
      go_wp2_with fail
      exact ⟨⟨k + 1, by omega, by go_num⟩, by simp [intOf]; omega⟩

theorem rdiv0_calls {w : World} : Calls Tryd.prog 95 #[.int .u8 1, .int .u8 0] w fun e w' => e = .returned (.tuple #[.int .u8 0, .int .i64 1]) ∧ w = w' := by
  go_enter Tryd.func95, Tryd.ntmps95
  go_wp2_with fail
  go_ret2
  exact ⟨rfl, rfl⟩
theorem rinv_calls {w : World} (a : B8) (ha : a ≠ 0#8) : Calls Tryd.prog 76 #[.int .u8 (a.toNat : Int)] w fun e w' => e = .returned (.tuple #[.int .u8 ((gi a).toNat : Int), .int .i64 0]) ∧ w = w' := by
  have HC := Lib.hid (rdiv_calls (w := w) a ha)
  generalize gi a = r at *
  go_enter Tryd.func76, Tryd.ntmps76
  go_wp2_with fail
  refine HC.out.mono ?_
  rintro e w' ⟨rfl, rfl⟩
  go_wp2_with fail
  go_ret2
  exact ⟨rfl, rfl⟩
theorem rinv0_calls {w : World} : Calls Tryd.prog 76 #[.int .u8 0] w fun e w' => e = .returned (.tuple #[.int .u8 0, .int .i64 1]) ∧ w = w' := by
  go_enter Tryd.func76, Tryd.ntmps76
  go_wp2_with fail
  refine rdiv0_calls.mono ?_
  rintro e w' ⟨rfl, rfl⟩
  go_wp2_with fail
  go_ret2
  exact ⟨rfl, rfl⟩

end Go.Proofs.YtibidlgikecelaaDoor
