/- Contracts of the sums: frame.Sum and the reference's. -/
import Derived.Test.YtfcacplecapgfaaB
import Derived.Test.YtfcacplecapgfaaFPlain
namespace Go.Proofs.Ytfcacplecapgfaa
open Go.RowKit
set_option linter.unusedVariables false
set_option linter.unusedSimpArgs false

theorem byte_wide (x : B8) : (x.toNat : Int) % 4294967296 = ((x.setWidth 32 : B32).toNat : Int) := by
  have := x.isLt
  simp only [BitVec.toNat_setWidth]
  omega

theorem crc_start (s : B32) (x : B8) : bits .xor .u32 (s.toNat : Int) ((x.toNat : Int) % 4294967296) = ((s ^^^ x.setWidth 32).toNat : Int) := by
  rw [byte_wide, bits32_xor]

theorem crc_start' (s : B32) (x : B8) : bits .xor .u32 (s.toNat : Int) (x.toNat : Int) = ((s ^^^ x.setWidth 32).toNat : Int) := by
  rw [← crc_start]
  have := x.isLt
  rw [Int.emod_eq_of_lt (by omega) (by omega)]

theorem crc_end (s : B32) : bits .xor .u32 IntKind.u32.max (s.toNat : Int) = ((~~~ s).toNat : Int) := by
  have h : IntKind.u32.max = ((0xffffffff#32 : B32).toNat : Int) := by decide
  rw [h, bits32_xor]
  congr 2

theorem crc_endR (s : B32) : bits .xor .u32 (s.toNat : Int) 4294967295 = ((~~~ s).toNat : Int) := by
  rw [← crc_end]
  have h : IntKind.u32.max = ((0xffffffff#32 : B32).toNat : Int) := by decide
  have h2 : (4294967295 : Int) = ((0xffffffff#32 : B32).toNat : Int) := by decide
  rw [h, h2, bits32_xor, bits32_xor, BitVec.xor_comm]

theorem odd_of (s : B32) (h : ((s.toNat : Int) % 2 == 1) = true) : s.getLsbD 0 = true := by
  have := bv32_odd s
  cases hs : s.getLsbD 0 with
  | true => rfl
  | false => rw [hs] at this; simp at this h; omega
theorem even_of (s : B32) (h : ((s.toNat : Int) % 2 == 1) = false) : s.getLsbD 0 = false := by
  have := bv32_odd s
  cases hs : s.getLsbD 0 with
  | false => rfl
  | true => rw [hs] at this; simp at this h; omega
theorem stepR_odd (s : B32) (h : ((s.toNat : Int) % 2 == 1) = true) : bits .xor .u32 ((s.toNat : Int) / 2) 2197175160 = ((crcBit s).toNat : Int) := by
  have h2 : (2197175160 : Int) = ((0x82f63b78#32 : B32).toNat : Int) := by decide
  rw [bv32_half, h2, bits32_xor, crcBit, odd_of s h, if_pos rfl]
theorem stepR_even (s : B32) (h : ((s.toNat : Int) % 2 == 1) = false) : (s.toNat : Int) / 2 = ((crcBit s).toNat : Int) := by
  rw [bv32_half, crcBit, even_of s h, if_neg (by decide)]
  simp

theorem take_snoc8 (l : List B8) (k : Nat) (h : k < l.length) : l.take (k + 1) = l.take k ++ [l[k]] := by
  rw [List.take_succ_eq_append_getElem h]

theorem crc_take (l : List B8) (k : Nat) (h : k < l.length) : crcRaw 0xffffffff#32 (l.take (k + 1)) = crcBits 8 (crcRaw 0xffffffff#32 (l.take k) ^^^ (l[k]).setWidth 32) := by
  rw [take_snoc8 l k h, crcRaw_snoc]; rfl

set_option maxHeartbeats 400000 in
theorem sum_calls {w : World} {A : Option Addr} {n c : Nat} {l : List B8} (hA : At w A (bys l)) (hn : n = l.length) (hmax : l.length ≤ 140737488355328) :
    Calls Try.prog 33 #[.slice A n c] w fun e w' => e = .returned (.int .u32 ((crc l).toNat : Int)) ∧ w = w' := by
  subst hn
  go_enter Try.func33, Try.ntmps33
  go_wp2
  go_loop [3, 8] (fun s i => ∃ k : Nat, k ≤ l.length ∧ i = .int .i64 k ∧ s = .int .u32 (crcRaw 0xffffffff#32 (l.take k)).toNat) (fun _ i => l.length - (intOf i).toNat)
  case atStart => exact ⟨0, by omega, rfl, rfl⟩
  case round =>
    obtain ⟨k, hk, rfl, rfl⟩ := hrel
    by_cases hlt : k < l.length
    · obtain ⟨b, off, rfl, hcell⟩ := hA.byte hlt
      have HC := Lib.hid (crc_take l k hlt)
      generalize crcRaw 0xffffffff#32 (l.take k) = s0 at *
      go_wp2
      go_loop [3, 16] (fun s i => ∃ j : Nat, j ≤ 8 ∧ i = .int .i64 j ∧ s = .int .u32 (crcBits j (s0 ^^^ (l[k]).setWidth 32)).toNat) (fun _ i => 8 - (intOf i).toNat)
      case atStart => exact ⟨0, by omega, rfl, int_eq (crc_start' _ _)⟩
      case round =>
        obtain ⟨j, hj, rfl, rfl⟩ := hrel
        by_cases hj8 : j < 8
        · go_wp2
          go_round
          case rel => exact ⟨j + 1, by omega, by go_num, by rw [crcBits_succ]; exact int_eq (sum_step _)⟩
          case measure => simp [intOf]; omega
        · go_wp2
          go_round
          case rel => exact ⟨k + 1, by omega, by go_num, by rw [HC.out, show j = 8 by omega]⟩
          case measure => simp [intOf]; omega
    · go_wp2
      go_ret
      exact ⟨ret_int (by rw [crc_end, List.take_of_length_le (by omega)]; rfl), rfl⟩


set_option maxHeartbeats 400000 in
theorem sumR_calls {w : World} {A : Option Addr} {n c : Nat} {l : List B8} (hA : At w A (bys l)) (hn : n = l.length) (hmax : l.length ≤ 140737488355328) :
    Calls Try.prog 34 #[.slice A n c] w fun e w' => e = .returned (.int .u32 ((crc l).toNat : Int)) ∧ w = w' := by
  subst hn
  go_enter Try.func34, Try.ntmps34
  go_wp2
  go_loop [3, 9] (fun s i => ∃ k : Nat, k ≤ l.length ∧ i = .int .i64 k ∧ s = .int .u32 (crcRaw 0xffffffff#32 (l.take k)).toNat) (fun _ i => l.length - (intOf i).toNat)
  case atStart => exact ⟨0, by omega, rfl, rfl⟩
  case round =>
    obtain ⟨k, hk, rfl, rfl⟩ := hrel
    by_cases hlt : k < l.length
    · obtain ⟨b, off, rfl, hcell⟩ := hA.byte hlt
      have HC := Lib.hid (crc_take l k hlt)
      generalize crcRaw 0xffffffff#32 (l.take k) = s0 at *
      go_wp2
      go_loop [3, 17] (fun s i => ∃ j : Nat, j ≤ 8 ∧ i = .int .i64 j ∧ s = .int .u32 (crcBits j (s0 ^^^ (l[k]).setWidth 32)).toNat) (fun _ i => 8 - (intOf i).toNat)
      case atStart => exact ⟨0, by omega, rfl, int_eq (crc_start' _ _)⟩
      case round =>
        obtain ⟨j, hj, rfl, rfl⟩ := hrel
        by_cases hj8 : j < 8
        · go_wp2
          all_goals
            go_round
            case rel => exact ⟨j + 1, by omega, by go_num, by rw [crcBits_succ]; first | exact int_eq (stepR_odd _ ‹_›) | exact int_eq (stepR_even _ ‹_›)⟩
            case measure => simp [intOf]; omega
        · go_wp2
          go_round
          case rel => exact ⟨k + 1, by omega, by go_num, by rw [HC.out, show j = 8 by omega]⟩
          case measure => simp [intOf]; omega
    · go_wp2
      go_ret
      exact ⟨ret_int (by rw [crc_endR, List.take_of_length_le (by omega)]; rfl), rfl⟩

end Go.Proofs.Ytfcacplecapgfaa
