/- Plain laws: a frame of which up to four neighbours of what it holds were turned tells another sum. -/
import Derived.Test.YtjninkdhicmniaaF5
namespace Go.Proofs.Ytjninkdhicmniaa
open Go.RowKit
set_option linter.unusedVariables false
set_option linter.unusedSimpArgs false

theorem crcBit_xor (x y : B32) : crcBit (x ^^^ y) = crcBit x ^^^ crcBit y := by
  unfold crcBit
  rw [BitVec.ushiftRight_xor_distrib, BitVec.getLsbD_xor]
  generalize x >>> 1 = u
  generalize y >>> 1 = v
  have hc : u ^^^ 0x82f63b78#32 ^^^ (v ^^^ 0x82f63b78#32) = u ^^^ v := by
    have : u ^^^ 0x82f63b78#32 ^^^ (v ^^^ 0x82f63b78#32) = u ^^^ v ^^^ (0x82f63b78#32 ^^^ 0x82f63b78#32) := by ac_rfl
    rw [this]; simp
  have hd : u ^^^ v ^^^ 0x82f63b78#32 = u ^^^ 0x82f63b78#32 ^^^ v := by ac_rfl
  cases x.getLsbD 0 <;> cases y.getLsbD 0 <;> simp [hc, hd, BitVec.xor_assoc]
  exact BitVec.xor_comm _ _
theorem crcBits_xor (n : Nat) : ∀ x y : B32, crcBits n (x ^^^ y) = crcBits n x ^^^ crcBits n y := by
  induction n with
  | zero => intro x y; rfl
  | succ n ih => intro x y; rw [crcBits, crcBits, crcBits, crcBit_xor, ih]
theorem crcBits_add (m n : Nat) : ∀ x : B32, crcBits (m + n) x = crcBits m (crcBits n x) := by
  induction n with
  | zero => intro x; rfl
  | succ n ih => intro x; rw [← Nat.add_assoc, crcBits, crcBits, ih]
theorem crcBit_top (s : B32) : (crcBit s).getLsbD 31 = s.getLsbD 0 := by
  unfold crcBit
  rw [BitVec.getLsbD_xor, BitVec.getLsbD_ushiftRight]
  have h : s.getLsbD (1 + 31) = false := BitVec.getLsbD_of_ge _ _ (by omega)
  rw [h]
  cases s.getLsbD 0 <;> decide
theorem crcBit_zero (s : B32) (h : crcBit s = 0#32) : s = 0#32 := by
  have h0 : s.getLsbD 0 = false := by rw [← crcBit_top, h]; decide
  unfold crcBit at h
  rw [h0, if_neg (by decide), BitVec.xor_zero] at h
  apply BitVec.eq_of_getLsbD_eq
  intro i hi
  cases i with
  | zero => rw [h0]; simp
  | succ i =>
    have := congrArg (fun v : B32 => v.getLsbD i) h
    simp only [BitVec.getLsbD_ushiftRight] at this
    rw [Nat.add_comm] at this
    simpa using this
theorem crcBits_zero (n : Nat) : ∀ s : B32, crcBits n s = 0#32 → s = 0#32 := by
  induction n with
  | zero => intro s h; exact h
  | succ n ih => intro s h; exact crcBit_zero _ (ih _ h)
theorem crcBits_of_zero (n : Nat) : crcBits n 0#32 = 0#32 := by
  induction n with
  | zero => rfl
  | succ n ih => rw [crcBits, show crcBit 0#32 = 0#32 by decide, ih]

/-- What stands eight bits up comes down as it is. -/
theorem crcBit_shift (z : B32) (h : z.toNat < 2 ^ 31) : crcBit (z <<< 1) = z := by
  unfold crcBit
  have h0 : (z <<< 1).getLsbD 0 = false := by simp
  rw [h0, if_neg (by decide), BitVec.xor_zero]
  apply BitVec.eq_of_toNat_eq
  rw [BitVec.toNat_ushiftRight, BitVec.toNat_shiftLeft, Nat.shiftLeft_eq, Nat.shiftRight_eq_div_pow]
  omega
theorem crcBits_shift (n : Nat) : ∀ z : B32, z.toNat < 2 ^ (32 - n) → n ≤ 32 → crcBits n (z <<< n) = z := by
  induction n with
  | zero => intro z _ _; simp [crcBits]
  | succ n ih =>
    intro z h hn
    have hz : z <<< (n + 1) = (z <<< n) <<< 1 := by rw [BitVec.shiftLeft_add]
    have hp : 2 ^ (32 - (n + 1)) ≤ 2 ^ 31 := Nat.pow_le_pow_right (by decide) (by omega)
    have hlt : (z <<< n).toNat < 2 ^ 31 := by
      rw [BitVec.toNat_shiftLeft, Nat.shiftLeft_eq]
      have h1 : z.toNat * 2 ^ n < 2 ^ (32 - (n + 1)) * 2 ^ n := Nat.mul_lt_mul_of_pos_right h (Nat.two_pow_pos n)
      rw [← Nat.pow_add] at h1
      have h2 : 32 - (n + 1) + n = 31 := by omega
      rw [h2] at h1
      exact Nat.lt_of_le_of_lt (Nat.mod_le _ _) h1
    rw [crcBits, hz, crcBit_shift _ hlt]
    exact ih z (Nat.lt_of_lt_of_le h (Nat.pow_le_pow_right (by decide) (by omega))) (by omega)

theorem crcByte_left (s d : B32) (x : B8) : crcByte (s ^^^ d) x = crcByte s x ^^^ crcBits 8 d := by
  unfold crcByte
  rw [← crcBits_xor]
  congr 1
  rw [BitVec.xor_assoc, BitVec.xor_comm d, ← BitVec.xor_assoc]
theorem crcByte_right (s : B32) (x y : B8) : crcByte s (x ^^^ y) = crcByte s x ^^^ crcBits 8 (y.setWidth 32) := by
  unfold crcByte
  rw [← crcBits_xor]
  congr 1
  rw [BitVec.setWidth_xor, BitVec.xor_assoc]
theorem crcRaw_left (l : List B8) : ∀ s d : B32, crcRaw (s ^^^ d) l = crcRaw s l ^^^ crcBits (8 * l.length) d := by
  induction l with
  | nil => intro s d; rfl
  | cons x l ih =>
    intro s d
    show crcRaw (crcByte (s ^^^ d) x) l = crcRaw (crcByte s x) l ^^^ _
    rw [crcByte_left, ih, ← crcBits_add]
    rfl
theorem crcRaw_append (s : B32) (l m : List B8) : crcRaw s (l ++ m) = crcRaw (crcRaw s l) m := by simp [crcRaw]

/-- Byte number i of by. -/
def byteAt (b : B32) (i : Nat) : B8 := (b >>> (8 * i)).setWidth 8

theorem by_parts (b : B32) : (byteAt b 0).setWidth 32 ^^^ (byteAt b 1).setWidth 32 <<< 8 ^^^ (byteAt b 2).setWidth 32 <<< 16 ^^^ (byteAt b 3).setWidth 32 <<< 24 = b := by
  apply BitVec.eq_of_getLsbD_eq
  intro i hi
  unfold byteAt
  simp only [BitVec.getLsbD_xor, BitVec.getLsbD_shiftLeft, BitVec.getLsbD_setWidth, BitVec.getLsbD_ushiftRight]
  have : i < 8 ∨ (8 ≤ i ∧ i < 16) ∨ (16 ≤ i ∧ i < 24) ∨ (24 ≤ i ∧ i < 32) := by omega
  rcases this with h | ⟨h, h'⟩ | ⟨h, h'⟩ | ⟨h, h'⟩
  · simp [hi, h, show i < 16 by omega, show i < 24 by omega]
  · simp [hi, show ¬ i < 8 by omega, show i - 8 < 8 by omega, show i < 16 by omega, show i < 24 by omega, show 8 + (i - 8) = i by omega, show i - 8 < 32 by omega]
  · simp [hi, show ¬ i < 8 by omega, show ¬ i - 8 < 8 by omega, show ¬ i < 16 by omega, show i - 16 < 8 by omega, show i < 24 by omega, show 16 + (i - 16) = i by omega, show i - 16 < 32 by omega]
  · simp [hi, show ¬ i < 8 by omega, show ¬ i - 8 < 8 by omega, show ¬ i - 16 < 8 by omega, show ¬ i < 16 by omega, show ¬ i < 24 by omega, show i - 24 < 8 by omega, show 24 + (i - 24) = i by omega, show i - 24 < 32 by omega]

theorem byte_small (x : B8) (n : Nat) (h : 8 ≤ n) : (x.setWidth 32 : B32).toNat < 2 ^ n := by
  have := x.isLt
  rw [BitVec.toNat_setWidth]
  have hp : 2 ^ 8 ≤ 2 ^ n := Nat.pow_le_pow_right (by decide) h
  exact Nat.lt_of_le_of_lt (Nat.mod_le _ _) (Nat.lt_of_lt_of_le this hp)

theorem crc_four (s : B32) (a b c d y0 y1 y2 y3 : B8) :
    crcRaw s [a ^^^ y0, b ^^^ y1, c ^^^ y2, d ^^^ y3] = crcRaw s [a, b, c, d] ^^^ crcBits 32 (y0.setWidth 32 ^^^ y1.setWidth 32 <<< 8 ^^^ y2.setWidth 32 <<< 16 ^^^ y3.setWidth 32 <<< 24) := by
  have h1 : crcBits 8 ((y1.setWidth 32 : B32) <<< 8) = y1.setWidth 32 := crcBits_shift 8 _ (byte_small _ _ (by decide)) (by decide)
  have h2 : crcBits 16 ((y2.setWidth 32 : B32) <<< 16) = y2.setWidth 32 := crcBits_shift 16 _ (byte_small _ _ (by decide)) (by decide)
  have h3 : crcBits 24 ((y3.setWidth 32 : B32) <<< 24) = y3.setWidth 32 := crcBits_shift 24 _ (byte_small _ _ (by decide)) (by decide)
  have e1 : crcBits 32 ((y1.setWidth 32 : B32) <<< 8) = crcBits 24 (y1.setWidth 32) := by
    have h := crcBits_add 24 8 ((y1.setWidth 32 : B32) <<< 8)
    rw [h1] at h
    exact h
  have e2 : crcBits 32 ((y2.setWidth 32 : B32) <<< 16) = crcBits 16 (y2.setWidth 32) := by
    have h := crcBits_add 16 16 ((y2.setWidth 32 : B32) <<< 16)
    rw [h2] at h
    exact h
  have e3 : crcBits 32 ((y3.setWidth 32 : B32) <<< 24) = crcBits 8 (y3.setWidth 32) := by
    have h := crcBits_add 8 24 ((y3.setWidth 32 : B32) <<< 24)
    rw [h3] at h
    exact h
  rw [crcBits_xor, crcBits_xor, crcBits_xor, e1, e2, e3]
  show crcByte (crcByte (crcByte (crcByte s (a ^^^ y0)) (b ^^^ y1)) (c ^^^ y2)) (d ^^^ y3) = crcByte (crcByte (crcByte (crcByte s a) b) c) d ^^^ _
  simp only [crcByte_right, crcByte_left, ← crcBits_add]
  first | done | ac_rfl

/-- The bytes from k on, i of them, turned by by's. -/
def xorAt (X : List B8) (k : Nat) (b : B32) : Nat → List B8
  | 0 => X
  | i + 1 => (xorAt X k b i).set (k + i) ((xorAt X k b i).getD (k + i) 0 ^^^ byteAt b i)

@[simp] theorem length_xorAt (X : List B8) (k : Nat) (b : B32) (i : Nat) : (xorAt X k b i).length = X.length := by
  induction i with
  | zero => rfl
  | succ i ih => simp [xorAt, ih]

theorem xorAt_four (p r : List B8) (a b c d : B8) (y : B32) : xorAt (p ++ a :: b :: c :: d :: r) p.length y 4 = p ++ (a ^^^ byteAt y 0) :: (b ^^^ byteAt y 1) :: (c ^^^ byteAt y 2) :: (d ^^^ byteAt y 3) :: r := by
  simp [xorAt, List.set_append, List.getD, List.getElem?_append]

theorem split_four (X : List B8) (k : Nat) (h : k + 4 ≤ X.length) : ∃ p a b c d r, X = p ++ a :: b :: c :: d :: r ∧ p.length = k := by
  refine ⟨X.take k, X[k], X[k + 1], X[k + 2], X[k + 3], X.drop (k + 4), ?_, by rw [List.length_take]; omega⟩
  have h1 : X.drop k = X[k] :: X.drop (k + 1) := List.drop_eq_getElem_cons (by omega)
  have h2 : X.drop (k + 1) = X[k + 1] :: X.drop (k + 1 + 1) := List.drop_eq_getElem_cons (by omega)
  have h3 : X.drop (k + 2) = X[k + 2] :: X.drop (k + 2 + 1) := List.drop_eq_getElem_cons (by omega)
  have h4 : X.drop (k + 3) = X[k + 3] :: X.drop (k + 3 + 1) := List.drop_eq_getElem_cons (by omega)
  rw [← h4, ← h3, ← h2, ← h1, List.take_append_drop]

theorem crc_burst (H : List B8) (k : Nat) (y : B32) (h : k + 4 ≤ H.length) : crc (xorAt H k y 4) = crc H → y = 0#32 := by
  intro he
  obtain ⟨p, a, b, c, d, r, rfl, rfl⟩ := split_four H k h
  rw [xorAt_four] at he
  unfold crc at he
  have he' : ∀ u v : B32, ~~~ u = ~~~ v → u = v := fun u v huv => by
    have := congrArg (fun z : B32 => ~~~ z) huv
    simpa using this
  have he2 := he' _ _ he
  have hx : ∀ (q : List B8) (e1 e2 e3 e4 : B8), p ++ e1 :: e2 :: e3 :: e4 :: q = p ++ ([e1, e2, e3, e4] ++ q) := fun _ _ _ _ _ => rfl
  rw [hx, hx, crcRaw_append, crcRaw_append, crcRaw_append, crcRaw_append, crc_four, crcRaw_left, by_parts] at he2
  have h0 : crcBits (8 * r.length) (crcBits 32 y) = 0#32 := by
    have h3 := congrArg (fun z => crcRaw (crcRaw (crcRaw 0xffffffff#32 p) [a, b, c, d]) r ^^^ z) he2
    try dsimp only at h3
    rw [← BitVec.xor_assoc, BitVec.xor_self, BitVec.zero_xor] at h3
    exact h3
  exact crcBits_zero _ _ (crcBits_zero _ _ h0)

theorem xorAt_none (X : List B8) (k : Nat) (h : k + 4 ≤ X.length) : xorAt X k 0#32 4 = X := by
  obtain ⟨p, a, b, c, d, r, rfl, rfl⟩ := split_four X k h
  rw [xorAt_four]
  simp [byteAt]

theorem be32_inj {s t : B32} (h : be32 s = be32 t) : s = t := by
  simp only [be32, List.cons.injEq, and_true] at h
  obtain ⟨h1, h2, h3, h4⟩ := h
  have e1 := congrArg BitVec.toNat h1
  have e2 := congrArg BitVec.toNat h2
  have e3 := congrArg BitVec.toNat h3
  have e4 := congrArg BitVec.toNat h4
  simp [BitVec.toNat_ushiftRight, Nat.shiftRight_eq_div_pow] at e1 e2 e3 e4
  apply BitVec.eq_of_toNat_eq
  have := s.isLt
  have := t.isLt
  omega

theorem xorAt_append (X Y : List B8) (k : Nat) (y : B32) (h : k + 4 ≤ X.length) : xorAt (X ++ Y) k y 4 = xorAt X k y 4 ++ Y := by
  obtain ⟨p, a, b, c, d, r, rfl, rfl⟩ := split_four X k h
  rw [xorAt_four]
  have : p ++ a :: b :: c :: d :: r ++ Y = p ++ a :: b :: c :: d :: (r ++ Y) := by simp
  rw [this, xorAt_four]
  simp

theorem xorAt_front (X : List B8) (k : Nat) (y : B32) (h : k + 4 ≤ X.length) (j : Nat) (hj : j < k) : (xorAt X k y 4)[j]'(by rw [length_xorAt]; omega) = X[j]'(by omega) := by
  have hgen : ∀ i, i ≤ 4 → ∀ (h1 : j < (xorAt X k y i).length), (xorAt X k y i)[j]'h1 = X[j]'(by omega) := by
    intro i
    induction i with
    | zero => intro _ _; rfl
    | succ i ih =>
      intro hi h1
      have := ih (by omega) (by rw [length_xorAt]; omega)
      simp only [xorAt]
      rw [List.getElem_set_ne (by omega)]
      exact this
  exact hgen 4 (Nat.le_refl _) _

/-- A frame with four neighbours turned. -/
theorem unwrap_burst (l : List B8) (k : Nat) (y : B32) (h0 : 1 ≤ l.length) (h1 : l.length ≤ 65535) (hk : 3 ≤ k) (hk2 : k + 4 ≤ l.length + 3) :
    (unwrapF (xorAt (wrapF l) k y 4)).2.2 = if y = 0#32 then 0 else 52 := by
  have hl : (xorAt (wrapF l) k y 4).length = l.length + 7 := by simp
  have hw : xorAt (wrapF l) k y 4 = xorAt (held l) k y 4 ++ be32 (crc (held l)) := by
    unfold wrapF; exact xorAt_append _ _ _ _ (by simp; omega)
  have U := unwrapAt (xorAt (wrapF l) k y 4)
  have hf := fun j hj => xorAt_front (wrapF l) k y (by simp; omega) j hj
  have h00 : (wrapF l)[0]'(by rw [length_wrapF]; omega) = 0xa3#8 := by simp [wrapF, held]
  have h1' : (wrapF l)[1]'(by rw [length_wrapF]; omega) = BitVec.ofNat 8 (l.length / 256) := by simp [wrapF, held, be16]
  have h2' : (wrapF l)[2]'(by rw [length_wrapF]; omega) = BitVec.ofNat 8 l.length := by simp [wrapF, held, be16]
  have hn : l.length = ((xorAt (wrapF l) k y 4)[1]'(by omega)).toNat * 256 + ((xorAt (wrapF l) k y 4)[2]'(by omega)).toNat := by
    rw [hf 1 (by omega), hf 2 (by omega), h1', h2', BitVec.toNat_ofNat, BitVec.toNat_ofNat]
    omega
  have ht : (xorAt (wrapF l) k y 4).take (l.length + 3) = xorAt (held l) k y 4 := by
    rw [hw, List.take_append_of_le_length (by simp), List.take_of_length_le (by simp)]
  have hd : ((xorAt (wrapF l) k y 4).drop (l.length + 3)).take 4 = be32 (crc (held l)) := by
    rw [hw, List.drop_append_of_le_length (by simp), List.drop_of_length_le (by simp)]
    rfl
  by_cases hy : y = 0#32
  · rw [if_pos hy]
    rw [U.good (by omega) (by rw [hf 0 (by omega), h00]) l.length hn (by omega) (by omega) (by rw [hd, ht, hy, xorAt_none _ _ (by simp; omega)])]
  · rw [if_neg hy]
    rw [U.bad5 (by omega) (by rw [hf 0 (by omega), h00]) l.length hn (by omega) (by omega) (by
      rw [hd, ht]
      intro he
      exact hy (crc_burst (held l) k y (by simp; omega) (be32_inj he).symm))]

end Go.Proofs.Ytjninkdhicmniaa
