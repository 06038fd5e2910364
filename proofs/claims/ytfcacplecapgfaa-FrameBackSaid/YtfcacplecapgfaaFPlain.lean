/- Plain laws on the check sum and on frames: no program in sight. -/
import Derived.Test.YtfcacplecapgfaaV
namespace Go.Proofs.Ytfcacplecapgfaa
open Go.RowKit
set_option linter.unusedVariables false
set_option linter.unusedSimpArgs false


abbrev B32 := BitVec 32

/-- One bit's step of the check sum. -/
def crcBit (s : B32) : B32 := (s >>> 1) ^^^ (if s.getLsbD 0 then 0x82f63b78#32 else 0#32)
def crcBits : Nat → B32 → B32
  | 0, s => s
  | n + 1, s => crcBits n (crcBit s)
def crcByte (s : B32) (x : B8) : B32 := crcBits 8 (s ^^^ x.setWidth 32)
def crcRaw (s : B32) (l : List B8) : B32 := l.foldl crcByte s
def crc (l : List B8) : B32 := ~~~ crcRaw 0xffffffff#32 l

theorem crcBits_succ (n : Nat) : ∀ s, crcBits (n + 1) s = crcBit (crcBits n s) := by
  induction n with
  | zero => intro s; rfl
  | succ n ih => intro s; rw [crcBits, ih]; rfl

theorem crcRaw_snoc (s : B32) (l : List B8) (x : B8) : crcRaw s (l ++ [x]) = crcByte (crcRaw s l) x := by simp [crcRaw]

/-! The model's own words for it. -/
theorem bits32 (f : B32 → B32 → B32) (op : BinOp) (hop : ∀ x y, bits op .u32 x y = IntKind.u32.wrap ((f (BitVec.ofInt 32 x) (BitVec.ofInt 32 y)).toNat : Int)) (a b : B32) :
    bits op .u32 (a.toNat : Int) (b.toNat : Int) = ((f a b).toNat : Int) := by
  rw [hop, IntKind.wrap_u32]
  have ha : BitVec.ofInt 32 (a.toNat : Int) = a := by simp
  have hb : BitVec.ofInt 32 (b.toNat : Int) = b := by simp
  rw [ha, hb]
  have := (f a b).isLt
  omega
theorem bits32_xor (a b : B32) : bits .xor .u32 (a.toNat : Int) (b.toNat : Int) = ((a ^^^ b).toNat : Int) := bits32 (· ^^^ ·) .xor (fun _ _ => rfl) a b
theorem bits32_and (a b : B32) : bits .and .u32 (a.toNat : Int) (b.toNat : Int) = ((a &&& b).toNat : Int) := bits32 (· &&& ·) .and (fun _ _ => rfl) a b

theorem bv32_half (s : B32) : (s.toNat : Int) / (2 : Int) = ((s >>> 1).toNat : Int) := by
  simp [BitVec.toNat_ushiftRight, Nat.shiftRight_eq_div_pow]
theorem bv32_odd (s : B32) : s.toNat % 2 = if s.getLsbD 0 then 1 else 0 := by
  rw [BitVec.getLsbD, Nat.testBit_zero]
  have := Nat.mod_two_eq_zero_or_one s.toNat
  rcases this with h | h <;> simp [h]
theorem bv32_and1 (s : B32) : (s &&& 1#32).toNat = if s.getLsbD 0 then 1 else 0 := by
  rw [← bv32_odd]
  simp [BitVec.toNat_and, Nat.and_one_is_mod]

theorem bits_and_one (s : B32) : bits .and .u32 (s.toNat : Int) 1 = (if s.getLsbD 0 then 1 else 0 : Int) := by
  have h := bits32_and s 1#32
  rw [show ((1#32 : B32).toNat : Int) = 1 from rfl] at h
  rw [h, bv32_and1]
  split <;> rfl

/-- frame.Sum's step. -/
theorem sum_step (s : B32) :
    bits .xor .u32 ((s.toNat : Int) / 2) (bits .and .u32 2197175160 (-(bits .and .u32 (s.toNat : Int) 1) % 4294967296)) = ((crcBit s).toNat : Int) := by
  rw [bits_and_one, bv32_half]
  unfold crcBit
  cases s.getLsbD 0 with
  | true =>
    rw [if_pos rfl, if_pos rfl]
    have h : bits .and .u32 2197175160 (-1 % 4294967296) = ((0x82f63b78#32 : B32).toNat : Int) := by decide
    rw [h, bits32_xor]
  | false =>
    rw [if_neg (by decide), if_neg (by decide)]
    have h : bits .and .u32 2197175160 (-0 % 4294967296) = ((0#32 : B32).toNat : Int) := by decide
    rw [h, bits32_xor]

/-- A sum's four bytes, the highest first. -/
def be32 (s : B32) : List B8 := [(s >>> 24).setWidth 8, (s >>> 16).setWidth 8, (s >>> 8).setWidth 8, s.setWidth 8]
/-- A number in so many bytes, the highest first. -/
def bigF (n : Nat) : Nat → List B8
  | 0 => []
  | k + 1 => bigF (n / 256) k ++ [BitVec.ofNat 8 n]
@[simp] theorem length_bigF (n k : Nat) : (bigF n k).length = k := by
  induction k generalizing n with
  | zero => rfl
  | succ k ih => simp [bigF, ih]
theorem bigF_front (n k : Nat) : bigF n (k + 1) = BitVec.ofNat 8 (n / 256 ^ k) :: bigF n k := by
  induction k generalizing n with
  | zero => simp [bigF]
  | succ k ih =>
    rw [bigF, ih (n / 256), bigF]
    rw [Nat.div_div_eq_div_mul, Nat.mul_comm, ← Nat.pow_succ]
    rfl
theorem wrap64_byte (n : Nat) : Int.tmod (n : Int) 256 % 256 = ((BitVec.ofNat 8 n).toNat : Int) := by
  rw [BitVec.toNat_ofNat]
  rw [Int.tmod_eq_emod_of_nonneg (by omega)]
  omega
theorem bv_mod (m : Nat) : Value.int .u8 ((m : Int) % 256) = bv (BitVec.ofNat 8 m) := by
  unfold bv; rw [BitVec.toNat_ofNat]; rfl
theorem set_zero (i j n : Nat) : (List.replicate (i + 1) 0#8 ++ bigF n j).set i (BitVec.ofNat 8 (n / 256 ^ j)) = List.replicate i 0#8 ++ bigF n (j + 1) := by
  rw [List.replicate_succ', List.append_assoc, List.set_append_right _ _ (by simp)]
  simp [bigF_front]
theorem wrap64_div (n j m : Nat) (hn : n < 2 ^ 63) (hm : m = n / 256 ^ j) : wrap64 ((m : Int) / 256) = ((n / 256 ^ (j + 1) : Nat) : Int) := by
  have h1 : n / 256 ^ (j + 1) = m / 256 := by rw [hm, Nat.pow_succ, Nat.div_div_eq_div_mul]
  have h2 : m ≤ n := by rw [hm]; exact Nat.div_le_self _ _
  rw [h1]
  unfold wrap64
  omega
/-- A length's two bytes. -/
def be16 (n : Nat) : List B8 := [BitVec.ofNat 8 (n / 256), BitVec.ofNat 8 n]

def held (b : List B8) : List B8 := 0xa3#8 :: be16 b.length ++ b
def wrapF (b : List B8) : List B8 := held b ++ be32 (crc (held b))

@[simp] theorem length_be32 (s : B32) : (be32 s).length = 4 := rfl
@[simp] theorem length_be16 (n : Nat) : (be16 n).length = 2 := rfl
@[simp] theorem length_held (b : List B8) : (held b).length = b.length + 3 := by simp [held]; omega
@[simp] theorem length_wrapF (b : List B8) : (wrapF b).length = b.length + 7 := by simp [wrapF]

theorem lit3 (n : Nat) (h : n ≤ 65535) : (#[Value.int .u8 163, Value.int .u8 ((n : Int) / 256), Value.int .u8 ((n : Int) % 256)] : Array Value).toList = bys (0xa3#8 :: be16 n) := by
  simp only [be16, bys_cons, bys_nil, bv, BitVec.toNat_ofNat]
  simp
  omega

def len16 (b : List B8) : Nat := (b.getD 1 0).toNat * 256 + (b.getD 2 0).toNat

/-- What Unwrap tells. -/
def unwrapF (b : List B8) : List B8 × List B8 × Int :=
  if b.length = 0 then ([], [], 50)
  else if b.getD 0 0 ≠ 0xa3#8 then ([], [], 51)
  else if b.length < 3 then ([], [], 50)
  else if len16 b = 0 then ([], [], 51)
  else if b.length < len16 b + 7 then ([], [], 50)
  else if (b.drop (len16 b + 3)).take 4 ≠ be32 (crc (b.take (len16 b + 3))) then ([], [], 52)
  else ((b.drop 3).take (len16 b), b.drop (len16 b + 7), 0)

end Go.Proofs.Ytfcacplecapgfaa
