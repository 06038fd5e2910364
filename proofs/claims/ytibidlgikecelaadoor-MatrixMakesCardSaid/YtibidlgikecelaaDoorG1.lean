/- The field of 256 numbers: sums by exclusive or, products by 0x11d. Plain; no program in sight. -/
import Derived.Test.YtibidlgikecelaaDoorV
namespace Go.Proofs.YtibidlgikecelaaDoor
set_option linter.unusedVariables false
set_option linter.unusedSimpArgs false

/-- x, or nought. -/
def sel {n : Nat} (c : Bool) (x : BitVec n) : BitVec n := if c then x else 0
theorem sel_xor {n : Nat} (c d : Bool) (x : BitVec n) : sel (c ^^ d) x = sel c x ^^^ sel d x := by
  cases c <;> cases d <;> simp [sel]
theorem sel_add {n : Nat} (c : Bool) (x y : BitVec n) : sel c (x ^^^ y) = sel c x ^^^ sel c y := by
  cases c <;> simp [sel]

/-- Twice a number. -/
def xt (a : B8) : B8 := (a <<< 1) ^^^ sel a.msb 0x1d#8
theorem xt_add (a b : B8) : xt (a ^^^ b) = xt a ^^^ xt b := by
  unfold xt
  rw [BitVec.shiftLeft_xor_distrib, BitVec.msb_xor, sel_xor]
  ac_rfl
/-- The product. -/
def gm (a b : B8) : B8 :=
  sel (b.getLsbD 0) a ^^^ (sel (b.getLsbD 1) (xt a) ^^^ (sel (b.getLsbD 2) (xt (xt a)) ^^^ (sel (b.getLsbD 3) (xt (xt (xt a))) ^^^
  (sel (b.getLsbD 4) (xt (xt (xt (xt a)))) ^^^ (sel (b.getLsbD 5) (xt (xt (xt (xt (xt a))))) ^^^ (sel (b.getLsbD 6) (xt (xt (xt (xt (xt (xt a)))))) ^^^ sel (b.getLsbD 7) (xt (xt (xt (xt (xt (xt (xt a))))))))))))) 

theorem gm_add_left (a b c : B8) : gm (a ^^^ b) c = gm a c ^^^ gm b c := by
  simp only [gm, xt_add, sel_add]
  ac_rfl
theorem gm_add_right (a b c : B8) : gm a (b ^^^ c) = gm a b ^^^ gm a c := by
  simp only [gm, BitVec.getLsbD_xor, sel_xor]
  ac_rfl

/-- A number is the sum of its bits. -/
theorem bits8 : ∀ x : B8, x = sel (x.getLsbD 0) 1#8 ^^^ (sel (x.getLsbD 1) 2#8 ^^^ (sel (x.getLsbD 2) 4#8 ^^^ (sel (x.getLsbD 3) 8#8 ^^^
    (sel (x.getLsbD 4) 16#8 ^^^ (sel (x.getLsbD 5) 32#8 ^^^ (sel (x.getLsbD 6) 64#8 ^^^ sel (x.getLsbD 7) 128#8)))))) := by decide +kernel

/-- What adds and agrees on the bits agrees. -/
theorem add_ext {n : Nat} (f g : B8 → BitVec n) (hf : ∀ x y, f (x ^^^ y) = f x ^^^ f y) (hg : ∀ x y, g (x ^^^ y) = g x ^^^ g y)
    (h0 : f 1#8 = g 1#8) (h1 : f 2#8 = g 2#8) (h2 : f 4#8 = g 4#8) (h3 : f 8#8 = g 8#8) (h4 : f 16#8 = g 16#8) (h5 : f 32#8 = g 32#8) (h6 : f 64#8 = g 64#8) (h7 : f 128#8 = g 128#8) :
    ∀ x, f x = g x := by
  have hz : ∀ f : B8 → BitVec n, (∀ x y, f (x ^^^ y) = f x ^^^ f y) → f 0#8 = 0#n := by
    intro f hf
    have := hf 0#8 0#8
    simpa using this
  have hs : ∀ (c : Bool) (e : B8), f e = g e → f (sel c e) = g (sel c e) := by
    intro c e he
    cases c
    · show f 0#8 = g 0#8
      rw [hz f hf, hz g hg]
    · exact he
  intro x
  rw [bits8 x]
  simp only [hf, hg]
  rw [hs _ _ h0, hs _ _ h1, hs _ _ h2, hs _ _ h3, hs _ _ h4, hs _ _ h5, hs _ _ h6, hs _ _ h7]

/-- Both ways: what adds in two places and agrees on the bits agrees. -/
theorem add_ext2 {n : Nat} (f g : B8 → B8 → BitVec n) (hf : ∀ x y z, f (x ^^^ y) z = f x z ^^^ f y z) (hf' : ∀ x y z, f x (y ^^^ z) = f x y ^^^ f x z)
    (hg : ∀ x y z, g (x ^^^ y) z = g x z ^^^ g y z) (hg' : ∀ x y z, g x (y ^^^ z) = g x y ^^^ g x z)
    (h : ∀ i j : Fin 8, f (1#8 <<< i.val) (1#8 <<< j.val) = g (1#8 <<< i.val) (1#8 <<< j.val)) : ∀ x y, f x y = g x y := by
  have hb : ∀ (i : Fin 8) (y : B8), f (1#8 <<< i.val) y = g (1#8 <<< i.val) y := fun i =>
    add_ext (f (1#8 <<< i.val)) (g (1#8 <<< i.val)) (hf' _) (hg' _) (h i 0) (h i 1) (h i 2) (h i 3) (h i 4) (h i 5) (h i 6) (h i 7)
  intro x y
  exact add_ext (fun x => f x y) (fun x => g x y) (fun x z => hf x z y) (fun x z => hg x z y) (hb 0 y) (hb 1 y) (hb 2 y) (hb 3 y) (hb 4 y) (hb 5 y) (hb 6 y) (hb 7 y) x

theorem gm_comm (a b : B8) : gm a b = gm b a :=
  add_ext2 gm (fun a b => gm b a) (fun x y z => gm_add_left x y z) (fun x y z => gm_add_right x y z) (fun x y z => gm_add_right z x y) (fun x y z => gm_add_left y z x) (by decide +kernel) a b

theorem gm_assoc (a b c : B8) : gm (gm a b) c = gm a (gm b c) := by
  have h : ∀ i j k : Fin 8, gm (gm (1#8 <<< i.val) (1#8 <<< j.val)) (1#8 <<< k.val) = gm (1#8 <<< i.val) (gm (1#8 <<< j.val) (1#8 <<< k.val)) := by decide +kernel
  have h2 : ∀ (k : Fin 8) (a b : B8), gm (gm a b) (1#8 <<< k.val) = gm a (gm b (1#8 <<< k.val)) := fun k =>
    add_ext2 (fun a b => gm (gm a b) (1#8 <<< k.val)) (fun a b => gm a (gm b (1#8 <<< k.val)))
      (fun x y z => by simp only [gm_add_left]) (fun x y z => by simp only [gm_add_right, gm_add_left]) (fun x y z => by simp only [gm_add_left]) (fun x y z => by simp only [gm_add_left, gm_add_right])
      (fun i j => h i j k)
  exact add_ext (fun c => gm (gm a b) c) (fun c => gm a (gm b c)) (fun x y => by simp only [gm_add_right]) (fun x y => by simp only [gm_add_right])
    (h2 0 a b) (h2 1 a b) (h2 2 a b) (h2 3 a b) (h2 4 a b) (h2 5 a b) (h2 6 a b) (h2 7 a b) c

theorem gm_one (a : B8) : gm a 1#8 = a := by
  have h : ∀ a : B8, gm a 1#8 = a := by decide +kernel
  exact h a
theorem one_gm (a : B8) : gm 1#8 a = a := by rw [gm_comm, gm_one]
theorem gm_zero (a : B8) : gm a 0#8 = 0#8 := by
  have := gm_add_right a 0#8 0#8
  simpa using this
theorem zero_gm (a : B8) : gm 0#8 a = 0#8 := by rw [gm_comm, gm_zero]

/-- The inverse: the power before the last. -/
def sq (a : B8) : B8 := gm a a
def gi (a : B8) : B8 :=
  let a2 := sq a; let a4 := sq a2; let a8 := sq a4; let a16 := sq a8; let a32 := sq a16; let a64 := sq a32; let a128 := sq a64
  gm (gm (gm (gm (gm (gm a2 a4) a8) a16) a32) a64) a128
theorem gm_gi (a : B8) (h : a ≠ 0#8) : gm a (gi a) = 1#8 := by
  have : ∀ a : B8, a = 0#8 ∨ gm a (gi a) = 1#8 := by decide +kernel
  rcases this a with h' | h'
  · exact absurd h' h
  · exact h'
theorem gi_gm (a : B8) (h : a ≠ 0#8) : gm (gi a) a = 1#8 := by rw [gm_comm, gm_gi a h]
theorem gm_cancel {a b c : B8} (h : a ≠ 0#8) (he : gm a b = gm a c) : b = c := by
  have := congrArg (gm (gi a)) he
  rwa [← gm_assoc, ← gm_assoc, gi_gm a h, one_gm, one_gm] at this
theorem gm_eq_zero {a b : B8} (h : gm a b = 0#8) : a = 0#8 ∨ b = 0#8 := by
  by_cases ha : a = 0#8
  · exact .inl ha
  · exact .inr (gm_cancel ha (by rw [h, gm_zero]))
theorem gi_ne {a : B8} (h : a ≠ 0#8) : gi a ≠ 0#8 := by
  intro he
  have := gm_gi a h
  rw [he, gm_zero] at this
  exact absurd this (by decide)
theorem gi_unique {a b : B8} (h : gm a b = 1#8) : b = gi a := by
  have ha : a ≠ 0#8 := by
    intro h0
    rw [h0, zero_gm] at h
    exact absurd h (by decide)
  exact gm_cancel ha (by rw [h, gm_gi a ha])

theorem xor_eq_zero {n : Nat} {a b : BitVec n} (h : a ^^^ b = 0#n) : a = b := by
  have := congrArg (· ^^^ b) h
  simpa [BitVec.xor_assoc] using this
theorem xor_ne {n : Nat} {a b : BitVec n} (h : a ≠ b) : a ^^^ b ≠ 0#n := fun he => h (xor_eq_zero he)

/-! The program's own way: four bits at a time, and a table of what leaves the highest place. -/
abbrev B16 := BitVec 16
def partF (a four : B8) : B16 :=
  sel (four.getLsbD 0) (a.setWidth 16) ^^^ (sel (four.getLsbD 1) (a.setWidth 16 <<< 1) ^^^ (sel (four.getLsbD 2) (a.setWidth 16 <<< 2) ^^^ sel (four.getLsbD 3) (a.setWidth 16 <<< 3)))
def foldT : List B8 := [0x00#8, 0x1d#8, 0x3a#8, 0x27#8, 0x74#8, 0x69#8, 0x4e#8, 0x53#8, 0xe8#8, 0xf5#8, 0xd2#8, 0xcf#8, 0x9c#8, 0x81#8, 0xa6#8, 0xbb#8]
def foldF (p : B16) : B8 :=
  sel (p.getLsbD 8) 0x1d#8 ^^^ (sel (p.getLsbD 9) 0x3a#8 ^^^ (sel (p.getLsbD 10) 0x74#8 ^^^ sel (p.getLsbD 11) 0xe8#8))
def settleF (p : B16) : B8 := p.setWidth 8 ^^^ foldF p
def mulF (a b : B8) : B8 := settleF (((settleF (partF a (b >>> 4))).setWidth 16 <<< 4) ^^^ partF a (b &&& 15#8))

theorem xor_and {n : Nat} (x y m : BitVec n) : (x ^^^ y) &&& m = (x &&& m) ^^^ (y &&& m) := by
  ext i hi
  simp [Bool.and_xor_distrib_right]
theorem setWidth_xor8 (a b : B8) : (a ^^^ b).setWidth 16 = a.setWidth 16 ^^^ b.setWidth 16 := BitVec.setWidth_xor
theorem partF_left (a b c : B8) : partF (a ^^^ b) c = partF a c ^^^ partF b c := by
  simp only [partF, setWidth_xor8, BitVec.shiftLeft_xor_distrib, sel_add]
  ac_rfl
theorem partF_right (a b c : B8) : partF a (b ^^^ c) = partF a b ^^^ partF a c := by
  simp only [partF, BitVec.getLsbD_xor, sel_xor]
  ac_rfl
theorem foldF_add (p q : B16) : foldF (p ^^^ q) = foldF p ^^^ foldF q := by
  simp only [foldF, BitVec.getLsbD_xor, sel_xor]
  ac_rfl
theorem settleF_add (p q : B16) : settleF (p ^^^ q) = settleF p ^^^ settleF q := by
  simp only [settleF, foldF_add, BitVec.setWidth_xor]
  ac_rfl
theorem mulF_eq (a b : B8) : mulF a b = gm a b :=
  add_ext2 mulF gm (fun x y z => by simp only [mulF, partF_left, settleF_add, setWidth_xor8, BitVec.shiftLeft_xor_distrib]; ac_rfl)
    (fun x y z => by simp only [mulF, BitVec.ushiftRight_xor_distrib, xor_and, partF_right, settleF_add, setWidth_xor8, BitVec.shiftLeft_xor_distrib]; ac_rfl)
    gm_add_left gm_add_right (by decide +kernel) a b

end Go.Proofs.YtibidlgikecelaaDoor
