/- Contracts: galois. -/
import Derived.Test.YtibidlgikecelaaDoorV
import Derived.Test.YtibidlgikecelaaDoorG1
import Derived.Test.YtibidlgikecelaaDoorChecked
namespace Go.Proofs.YtibidlgikecelaaDoor
open Go.RowKit
set_option linter.unusedVariables false
set_option linter.unusedSimpArgs false

theorem b8_gen (f : B8 → B8 → B8) (op : BinOp) (hop : ∀ x y, bits op .u8 x y = IntKind.u8.wrap ((f (BitVec.ofInt 8 x) (BitVec.ofInt 8 y)).toNat : Int)) (a b : B8) :
    bits op .u8 (a.toNat : Int) (b.toNat : Int) = ((f a b).toNat : Int) := by
  rw [hop, IntKind.wrap_u8]
  have ha : BitVec.ofInt 8 (a.toNat : Int) = a := by simp
  have hb : BitVec.ofInt 8 (b.toNat : Int) = b := by simp
  rw [ha, hb]
  have := (f a b).isLt
  omega
theorem b8_xor (a b : B8) : bits .xor .u8 (a.toNat : Int) (b.toNat : Int) = ((a ^^^ b).toNat : Int) := b8_gen (· ^^^ ·) .xor (fun _ _ => rfl) a b
theorem b8_and (a b : B8) : bits .and .u8 (a.toNat : Int) (b.toNat : Int) = ((a &&& b).toNat : Int) := b8_gen (· &&& ·) .and (fun _ _ => rfl) a b
theorem bits16 (f : B16 → B16 → B16) (op : BinOp) (hop : ∀ x y, bits op .u16 x y = IntKind.u16.wrap ((f (BitVec.ofInt 16 x) (BitVec.ofInt 16 y)).toNat : Int)) (a b : B16) :
    bits op .u16 (a.toNat : Int) (b.toNat : Int) = ((f a b).toNat : Int) := by
  rw [hop, IntKind.wrap_u16]
  have ha : BitVec.ofInt 16 (a.toNat : Int) = a := by simp
  have hb : BitVec.ofInt 16 (b.toNat : Int) = b := by simp
  rw [ha, hb]
  have := (f a b).isLt
  omega
theorem bits16_xor (a b : B16) : bits .xor .u16 (a.toNat : Int) (b.toNat : Int) = ((a ^^^ b).toNat : Int) := bits16 (· ^^^ ·) .xor (fun _ _ => rfl) a b
theorem bits16_and (a b : B16) : bits .and .u16 (a.toNat : Int) (b.toNat : Int) = ((a &&& b).toNat : Int) := bits16 (· &&& ·) .and (fun _ _ => rfl) a b

/-- The parts of partF, one by one. -/
def partK (a b : B8) : Nat → B16
  | 0 => 0#16
  | k + 1 => partK a b k ^^^ sel (b.getLsbD k) (a.setWidth 16 <<< k)
theorem partK_four (a b : B8) : partK a b 4 = partF a b := by
  simp [partK, partF, BitVec.xor_assoc]
theorem low_bit (x : B8) : ((x &&& 1#8).toNat : Int) = if x.getLsbD 0 then 1 else 0 := by
  revert x; decide +kernel
theorem shr8 (b : B8) (k : Nat) : (b.toNat : Int) / 2 ^ k = ((b >>> k).toNat : Int) := by
  simp [BitVec.toNat_ushiftRight, Nat.shiftRight_eq_div_pow]
theorem part_term (a b : B8) {k : Nat} (hk : k < 4) : IntKind.u16.wrap ((a.toNat : Int) * 2 ^ k * IntKind.u16.wrap (bits .and .u8 ((b.toNat : Int) / 2 ^ k) 1)) = ((sel (b.getLsbD k) (a.setWidth 16 <<< k)).toNat : Int) := by
  have h1 : bits .and .u8 ((b.toNat : Int) / 2 ^ k) 1 = if b.getLsbD k then 1 else 0 := by
    rw [shr8, show (1 : Int) = ((1#8 : B8).toNat : Int) by rfl, b8_and, low_bit]
    simp
  rw [h1]
  have ha := a.isLt
  cases hb : b.getLsbD k with
  | false => simp [sel, IntKind.wrap_u16]
  | true =>
    rcases (by omega : k = 0 ∨ k = 1 ∨ k = 2 ∨ k = 3) with rfl | rfl | rfl | rfl <;>
      (simp [sel, IntKind.wrap_u16, BitVec.toNat_shiftLeft, Nat.shiftLeft_eq] <;> omega)
theorem part_step (a b : B8) {k : Nat} (hk : k < 4) : bits .xor .u16 ((partK a b k).toNat : Int) (IntKind.u16.wrap ((a.toNat : Int) * 2 ^ k * IntKind.u16.wrap (bits .and .u8 ((b.toNat : Int) / 2 ^ k) 1))) = ((partK a b (k + 1)).toNat : Int) := by
  rw [part_term a b hk, bits16_xor]; rfl

set_option maxHeartbeats 400000 in
set_option maxRecDepth 100000 in
theorem add_calls {w : World} (a b : B8) : Calls Tryd.prog 72 #[.int .u8 (a.toNat : Int), .int .u8 (b.toNat : Int)] w fun e w' => e = .returned (.int .u8 ((a ^^^ b).toNat : Int)) ∧ w = w' := by
  go_enter Tryd.func72, Tryd.ntmps72
  go_wp2
  go_ret
  exact ⟨by rw [← b8_xor]; rfl, rfl⟩

set_option maxHeartbeats 400000 in
set_option maxRecDepth 100000 in
theorem part_calls {w : World} (a b : B8) : Calls Tryd.prog 91 #[.int .u8 (a.toNat : Int), .int .u8 (b.toNat : Int)] w fun e w' => e = .returned (.int .u16 ((partF a b).toNat : Int)) ∧ Below w.heap.size w w' := by
  go_enter Tryd.func91, Tryd.ntmps91
  go_wp2
  go_loopw [5, 7] (fun s5 s7 wr => ∃ k : Nat, k ≤ 4 ∧ s7 = .int .i64 ((k : Nat) : Int) ∧ s5 = .int .u16 ((partK a b k).toNat : Int) ∧ Below w.heap.size w wr) (fun _ s7 _ => 4 - (intOf s7).toNat)
  case atStart => exact ⟨0, by omega, rfl, rfl, Below.refl _ _⟩
  case round =>
    obtain ⟨k, hk, rfl, rfl, hB⟩ := hrel
    by_cases hlt : k < 4
    · have hs := part_step a b hlt
      generalize hp : partK a b k = p at *
      generalize hq : partK a b (k + 1) = q at *
      have HS := Lib.hid hs
      have HQ := Lib.hid hq
      clear hs hp hq
      rcases (by omega : k = 0 ∨ k = 1 ∨ k = 2 ∨ k = 3) with rfl | rfl | rfl | rfl
      · go_wp2
        go_quiet (fail)
        go_wp2
        refine ⟨⟨1, by omega, rfl, ?_, hB.trans ((belowN _).mono hB.size)⟩, by simp [intOf]⟩
        have hs := HS.out
        rw [HQ.out]
        simpa using hs
      · go_wp2
        go_quiet (fail)
        go_wp2
        refine ⟨⟨2, by omega, rfl, ?_, hB.trans ((belowN _).mono hB.size)⟩, by simp [intOf]⟩
        have hs := HS.out
        rw [HQ.out]
        simpa using hs
      · go_wp2
        go_quiet (fail)
        go_wp2
        refine ⟨⟨3, by omega, rfl, ?_, hB.trans ((belowN _).mono hB.size)⟩, by simp [intOf]⟩
        have hs := HS.out
        rw [HQ.out]
        simpa using hs
      · go_wp2
        go_quiet (fail)
        go_wp2
        refine ⟨⟨4, by omega, rfl, ?_, hB.trans ((belowN _).mono hB.size)⟩, by simp [intOf]⟩
        have hs := HS.out
        rw [HQ.out]
        simpa using hs
    · obtain rfl : k = 4 := by omega
      go_wp2
      go_ret
      exact ⟨by rw [← partK_four]; rfl, hB⟩

end Go.Proofs.YtibidlgikecelaaDoor
