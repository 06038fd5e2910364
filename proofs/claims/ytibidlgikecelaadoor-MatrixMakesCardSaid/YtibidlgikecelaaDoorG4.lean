/- The document's product in the field of 256: bit by bit, then folded from the highest place down. -/
import Derived.Test.YtibidlgikecelaaDoorG1
namespace Go.Proofs.YtibidlgikecelaaDoor
set_option linter.unusedVariables false

/-- The first k places of b. -/
def cl16 (a b : B8) : Nat → B16
  | 0 => 0#16
  | k + 1 => cl16 a b k ^^^ sel (b.getLsbD k) (a.setWidth 16 <<< k)
/-- One place folded. -/
def red1 (i : Nat) (p : B16) : B16 := p ^^^ sel (p.getLsbD i) (0x11d#16 <<< (i - 8))
/-- The places from 14 down, k of them. -/
def redK : Nat → B16 → B16
  | 0, p => p
  | k + 1, p => red1 (14 - k) (redK k p)
def mulR (a b : B8) : B8 := (redK 7 (cl16 a b 8)).setWidth 8
theorem cl16_left (a b c : B8) : ∀ k, cl16 (a ^^^ b) c k = cl16 a c k ^^^ cl16 b c k
  | 0 => by simp [cl16]
  | k + 1 => by
    simp only [cl16, cl16_left a b c k, setWidth_xor8, BitVec.shiftLeft_xor_distrib, sel_add]
    ac_rfl
theorem cl16_right (a b c : B8) : ∀ k, cl16 a (b ^^^ c) k = cl16 a b k ^^^ cl16 a c k
  | 0 => by simp [cl16]
  | k + 1 => by
    simp only [cl16, cl16_right a b c k, BitVec.getLsbD_xor, sel_xor]
    ac_rfl
theorem red1_add (i : Nat) (p q : B16) : red1 i (p ^^^ q) = red1 i p ^^^ red1 i q := by
  simp only [red1, BitVec.getLsbD_xor, sel_xor]
  ac_rfl
theorem redK_add : ∀ (k : Nat) (p q : B16), redK k (p ^^^ q) = redK k p ^^^ redK k q
  | 0, p, q => rfl
  | k + 1, p, q => by rw [redK, redK_add k, red1_add]; rfl
theorem mulR_eq (a b : B8) : mulR a b = gm a b :=
  add_ext2 mulR gm (fun x y z => by simp only [mulR, cl16_left, redK_add, BitVec.setWidth_xor])
    (fun x y z => by simp only [mulR, cl16_right, redK_add, BitVec.setWidth_xor])
    gm_add_left gm_add_right (by decide +kernel) a b

end Go.Proofs.YtibidlgikecelaaDoor
