/- Contracts: the document's products (amphoraref01). -/
import Derived.Test.YtibidlgikecelaaDoorW2
import Derived.Test.YtibidlgikecelaaDoorG4
namespace Go.Proofs.YtibidlgikecelaaDoor
open Go.RowKit
set_option linter.unusedVariables false
set_option linter.unusedSimpArgs false

theorem b64_xor (p q : B16) : bits .xor .i64 (p.toNat : Int) (q.toNat : Int) = ((p ^^^ q).toNat : Int) := by
  have h : bits .xor .i64 (p.toNat : Int) (q.toNat : Int) = IntKind.i64.wrap ((BitVec.ofInt 64 (p.toNat : Int) ^^^ BitVec.ofInt 64 (q.toNat : Int)).toNat : Int) := rfl
  have hp : BitVec.ofInt 64 (p.toNat : Int) = p.setWidth 64 := by
    apply BitVec.eq_of_toNat_eq
    have := p.isLt
    simp [BitVec.toNat_ofInt]
  have hq : BitVec.ofInt 64 (q.toNat : Int) = q.setWidth 64 := by
    apply BitVec.eq_of_toNat_eq
    have := q.isLt
    simp [BitVec.toNat_ofInt]
  rw [h, hp, hq, ← BitVec.setWidth_xor]
  have := (p ^^^ q).isLt
  rw [BitVec.toNat_setWidth, Nat.mod_eq_of_lt (by omega), IntKind.wrap_i64]
  omega

theorem bit_at (b : B8) (k : Nat) : bits .and .u8 ((b.toNat : Int) / 2 ^ k) (1 : Int) = if b.getLsbD k then 1 else 0 := by
  rw [shr8, show (1 : Int) = ((1#8 : B8).toNat : Int) by rfl, b8_and, low_bit]
  simp
theorem shl_at (a : B8) {k : Nat} (hk : k < 8) : wrap64 ((a.toNat : Int) * 2 ^ k) = ((a.setWidth 16 <<< k).toNat : Int) := by
  have ha := a.isLt
  rcases (by omega : k = 0 ∨ k = 1 ∨ k = 2 ∨ k = 3 ∨ k = 4 ∨ k = 5 ∨ k = 6 ∨ k = 7) with rfl | rfl | rfl | rfl | rfl | rfl | rfl | rfl <;>
    (simp [wrap64, BitVec.toNat_shiftLeft, Nat.shiftLeft_eq]; omega)

theorem b64_bit (p : B16) (i : Nat) : bits .and .i64 ((p.toNat : Int) / 2 ^ i) (1 : Int) = if p.getLsbD i then 1 else 0 := by
  have e : (p.toNat : Int) / 2 ^ i = ((p >>> i).toNat : Int) := by simp [BitVec.toNat_ushiftRight, Nat.shiftRight_eq_div_pow]
  have h : bits .and .i64 ((p >>> i).toNat : Int) (1 : Int) = IntKind.i64.wrap ((BitVec.ofInt 64 ((p >>> i).toNat : Int) &&& BitVec.ofInt 64 1).toNat : Int) := rfl
  have hp : BitVec.ofInt 64 ((p >>> i).toNat : Int) = (p >>> i).setWidth 64 := by
    apply BitVec.eq_of_toNat_eq
    have := (p >>> i).isLt
    simp only [BitVec.toNat_ofInt, BitVec.toNat_setWidth]
    omega
  have h1 : ((p >>> i).setWidth 64 &&& BitVec.ofInt 64 1).toNat = (p >>> i).toNat % 2 := by
    have := (p >>> i).isLt
    rw [BitVec.toNat_and, BitVec.toNat_setWidth, Nat.mod_eq_of_lt (by omega), show (BitVec.ofInt 64 1).toNat = 1 by rfl, Nat.and_one_is_mod]
  have h2 : (p >>> i).toNat % 2 = if p.getLsbD i then 1 else 0 := by
    rw [BitVec.toNat_ushiftRight, BitVec.getLsbD, Nat.testBit, Nat.one_and_eq_mod_two]
    have := Nat.mod_two_eq_zero_or_one (p.toNat >>> i)
    rcases this with h | h <;> simp [h]
  rw [e, h, hp, h1, h2, IntKind.wrap_i64]
  split <;> rfl
theorem odd64 {p : B16} {i : Nat} {d : Int} (hd : d = 2 ^ i) {x : Bool} (h : (bits .and .i64 ((p.toNat : Int) / d) (1 : Int) == 1) = x) : p.getLsbD i = x := by
  rw [hd, b64_bit] at h
  cases hb : p.getLsbD i <;> rw [hb] at h <;> simpa using h
theorem red_odd {p : B16} {i : Nat} (h : p.getLsbD i = true) {c : Int} (hc : c = ((0x11d#16 <<< (i - 8)).toNat : Int)) : bits .xor .i64 (p.toNat : Int) c = ((red1 i p).toNat : Int) := by
  rw [hc, b64_xor, red1, h]; rfl
theorem red_even {p : B16} {i : Nat} (h : p.getLsbD i = false) : red1 i p = p := by
  rw [red1, h]; simp [sel]

set_option maxHeartbeats 400000 in
set_option maxRecDepth 100000 in
theorem rmul_calls {w : World} (a b : B8) : Calls Tryd.prog 77 #[.int .u8 (a.toNat : Int), .int .u8 (b.toNat : Int)] w fun e w' => e = .returned (.int .u8 ((gm a b).toNat : Int)) ∧ w = w' := by
  go_enter Tryd.func77, Tryd.ntmps77
  go_wp2_with fail
  go_loop [5, 8] (fun s5 s8 => ∃ k : Nat, k ≤ 8 ∧ s8 = .int .i64 ((k : Nat) : Int) ∧ s5 = .int .i64 ((cl16 a b k).toNat : Int)) (fun _ s8 => 8 - (intOf s8).toNat)
  case atStart => exact ⟨0, by omega, rfl, rfl⟩
  case round =>
    obtain ⟨k, hk, rfl, rfl⟩ := hrel
    by_cases hlt : k < 8
    · have hki : (k : Int) < 8 := by omega
      have hba := bit_at b k
      have hsa := shl_at a hlt
      cases hbit : b.getLsbD k with
      | true =>
        have hb : (bits .and .u8 ((b.toNat : Int) / 2 ^ k) 1 == 1) = true := by rw [hba, hbit]; rfl
        have HB := Lib.hid hbit
        have HS := Lib.hid hsa
        clear hba hsa hbit
        go_wp2_with fail
        refine ⟨⟨k + 1, by omega, by go_num, ?_⟩, by simp [intOf]; omega⟩
        rw [HS.out, b64_xor, cl16, HB.out]
        rfl
      | false =>
        have hb : (bits .and .u8 ((b.toNat : Int) / 2 ^ k) 1 == 1) = false := by rw [hba, hbit]; rfl
        have HB := Lib.hid hbit
        clear hba hsa hbit
        go_wp2_with fail
        refine ⟨⟨k + 1, by omega, by go_num, ?_⟩, by simp [intOf]; omega⟩
        rw [cl16, HB.out]
        simp [sel]
    · obtain rfl : k = 8 := by omega
      go_wp2_with fail
      have hfin := mulR_eq a b
      unfold mulR at hfin
      generalize cl16 a b 8 = p0 at *
      have HF := Lib.hid hfin
      clear hfin
      go_loop [5, 7] (fun s5 s7 => ∃ j : Nat, j ≤ 7 ∧ s7 = .int .i64 (14 - ((j : Nat) : Int)) ∧ s5 = .int .i64 ((redK j p0).toNat : Int)) (fun _ s7 => (intOf s7).toNat)
      case atStart => exact ⟨0, by omega, rfl, rfl⟩
      case round =>
        obtain ⟨j, hj, rfl, rfl⟩ := hrel
        by_cases hlt : j < 7
        · rcases (by omega : j = 0 ∨ j = 1 ∨ j = 2 ∨ j = 3 ∨ j = 4 ∨ j = 5 ∨ j = 6) with rfl | rfl | rfl | rfl | rfl | rfl | rfl
          · go_wp2_with fail
            · rename_i hq
              refine ⟨⟨1, by omega, by simp, ?_⟩, by simp [intOf]⟩
              rw [red_odd (i := 14) (odd64 (by decide) hq) (by decide)]
              rfl
            · rename_i hq
              refine ⟨⟨1, by omega, by simp, ?_⟩, by simp [intOf]⟩
              have hr := red_even (i := 14) (odd64 (by decide) hq)
              rw [show redK 1 p0 = red1 14 (redK 0 p0) by rfl, hr]
          · go_wp2_with fail
            · rename_i hq
              refine ⟨⟨2, by omega, by simp, ?_⟩, by simp [intOf]⟩
              rw [red_odd (i := 13) (odd64 (by decide) hq) (by decide)]
              rfl
            · rename_i hq
              refine ⟨⟨2, by omega, by simp, ?_⟩, by simp [intOf]⟩
              have hr := red_even (i := 13) (odd64 (by decide) hq)
              rw [show redK 2 p0 = red1 13 (redK 1 p0) by rfl, hr]
          · go_wp2_with fail
            · rename_i hq
              refine ⟨⟨3, by omega, by simp, ?_⟩, by simp [intOf]⟩
              rw [red_odd (i := 12) (odd64 (by decide) hq) (by decide)]
              rfl
            · rename_i hq
              refine ⟨⟨3, by omega, by simp, ?_⟩, by simp [intOf]⟩
              have hr := red_even (i := 12) (odd64 (by decide) hq)
              rw [show redK 3 p0 = red1 12 (redK 2 p0) by rfl, hr]
          · go_wp2_with fail
            · rename_i hq
              refine ⟨⟨4, by omega, by simp, ?_⟩, by simp [intOf]⟩
              rw [red_odd (i := 11) (odd64 (by decide) hq) (by decide)]
              rfl
            · rename_i hq
              refine ⟨⟨4, by omega, by simp, ?_⟩, by simp [intOf]⟩
              have hr := red_even (i := 11) (odd64 (by decide) hq)
              rw [show redK 4 p0 = red1 11 (redK 3 p0) by rfl, hr]
          · go_wp2_with fail
            · rename_i hq
              refine ⟨⟨5, by omega, by simp, ?_⟩, by simp [intOf]⟩
              rw [red_odd (i := 10) (odd64 (by decide) hq) (by decide)]
              rfl
            · rename_i hq
              refine ⟨⟨5, by omega, by simp, ?_⟩, by simp [intOf]⟩
              have hr := red_even (i := 10) (odd64 (by decide) hq)
              rw [show redK 5 p0 = red1 10 (redK 4 p0) by rfl, hr]
          · go_wp2_with fail
            · rename_i hq
              refine ⟨⟨6, by omega, by simp, ?_⟩, by simp [intOf]⟩
              rw [red_odd (i := 9) (odd64 (by decide) hq) (by decide)]
              rfl
            · rename_i hq
              refine ⟨⟨6, by omega, by simp, ?_⟩, by simp [intOf]⟩
              have hr := red_even (i := 9) (odd64 (by decide) hq)
              rw [show redK 6 p0 = red1 9 (redK 5 p0) by rfl, hr]
          · go_wp2_with fail
            · rename_i hq
              refine ⟨⟨7, by omega, by simp, ?_⟩, by simp [intOf]⟩
              rw [red_odd (i := 8) (odd64 (by decide) hq) (by decide)]
              rfl
            · rename_i hq
              refine ⟨⟨7, by omega, by simp, ?_⟩, by simp [intOf]⟩
              have hr := red_even (i := 8) (odd64 (by decide) hq)
              rw [show redK 7 p0 = red1 8 (redK 6 p0) by rfl, hr]
        · obtain rfl : j = 7 := by omega
          go_wp2_with fail
          go_ret
          refine ⟨?_, rfl⟩
          rw [← HF.out]
          simp [BitVec.toNat_setWidth]

end Go.Proofs.YtibidlgikecelaaDoor
