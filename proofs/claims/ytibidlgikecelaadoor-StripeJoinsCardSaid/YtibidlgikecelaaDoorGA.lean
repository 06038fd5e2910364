/- The field of 256 numbers: sums by exclusive or, products by 0x11d. Plain; no program in sight. Matrices over the field of 256 numbers: products, ones, elimination. Plain; no program in sight. Any rows of a code's matrix, as many as its data, take nothing but nought to nought. Plain; no program in sight. The document's product in the field of 256: bit by bit, then folded from the highest place down. Matrices in the making: what stands in a grid between the steps of a loop. Plain; no program in sight. -/
import Derived.Test.YtibidlgikecelaaDoorV
namespace Go.Proofs.YtibidlgikecelaaDoor
set_option linter.unusedVariables false
set_option linter.unusedSimpArgs false

/-- x, or nought. -/
def sel {n : Nat} (c : Bool) (x : BitVec n) : BitVec n := if c then x else 0
theorem sel_xor {n : Nat} (c d : Bool) (x : BitVec n) : sel (c ^^ d) x = sel c x ^^^ sel d x := by
  cases c <;> cases d <;> simp [sel]
theorem sel_add {n : Nat} (c : Bool) (x y : BitVec n) : sel c (x ^^^ y) = sel c x ^^^ sel c y := by
  cases c <;> simp [sel]

/-- Twice a number. -/
def xt (a : B8) : B8 := (a <<< 1) ^^^ sel a.msb 0x1d#8
theorem xt_add (a b : B8) : xt (a ^^^ b) = xt a ^^^ xt b := by
  unfold xt
  rw [BitVec.shiftLeft_xor_distrib, BitVec.msb_xor, sel_xor]
  ac_rfl
/-- The product. -/
def gm (a b : B8) : B8 :=
  sel (b.getLsbD 0) a ^^^ (sel (b.getLsbD 1) (xt a) ^^^ (sel (b.getLsbD 2) (xt (xt a)) ^^^ (sel (b.getLsbD 3) (xt (xt (xt a))) ^^^
  (sel (b.getLsbD 4) (xt (xt (xt (xt a)))) ^^^ (sel (b.getLsbD 5) (xt (xt (xt (xt (xt a))))) ^^^ (sel (b.getLsbD 6) (xt (xt (xt (xt (xt (xt a)))))) ^^^ sel (b.getLsbD 7) (xt (xt (xt (xt (xt (xt (xt a))))))))))))) 

theorem gm_add_left (a b c : B8) : gm (a ^^^ b) c = gm a c ^^^ gm b c := by
  simp only [gm, xt_add, sel_add]
  ac_rfl
theorem gm_add_right (a b c : B8) : gm a (b ^^^ c) = gm a b ^^^ gm a c := by
  simp only [gm, BitVec.getLsbD_xor, sel_xor]
  ac_rfl

/-- A number is the sum of its bits. -/
theorem bits8 : ∀ x : B8, x = sel (x.getLsbD 0) 1#8 ^^^ (sel (x.getLsbD 1) 2#8 ^^^ (sel (x.getLsbD 2) 4#8 ^^^ (sel (x.getLsbD 3) 8#8 ^^^
    (sel (x.getLsbD 4) 16#8 ^^^ (sel (x.getLsbD 5) 32#8 ^^^ (sel (x.getLsbD 6) 64#8 ^^^ sel (x.getLsbD 7) 128#8)))))) := by decide +kernel

/-- What adds and agrees on the bits agrees. -/
theorem add_ext {n : Nat} (f g : B8 → BitVec n) (hf : ∀ x y, f (x ^^^ y) = f x ^^^ f y) (hg : ∀ x y, g (x ^^^ y) = g x ^^^ g y)
    (h0 : f 1#8 = g 1#8) (h1 : f 2#8 = g 2#8) (h2 : f 4#8 = g 4#8) (h3 : f 8#8 = g 8#8) (h4 : f 16#8 = g 16#8) (h5 : f 32#8 = g 32#8) (h6 : f 64#8 = g 64#8) (h7 : f 128#8 = g 128#8) :
    ∀ x, f x = g x := by
  have hz : ∀ f : B8 → BitVec n, (∀ x y, f (x ^^^ y) = f x ^^^ f y) → f 0#8 = 0#n := by
    intro f hf
    have := hf 0#8 0#8
    simpa using this
  have hs : ∀ (c : Bool) (e : B8), f e = g e → f (sel c e) = g (sel c e) := by
    intro c e he
    cases c
    · show f 0#8 = g 0#8
      rw [hz f hf, hz g hg]
    · exact he
  intro x
  rw [bits8 x]
  simp only [hf, hg]
  rw [hs _ _ h0, hs _ _ h1, hs _ _ h2, hs _ _ h3, hs _ _ h4, hs _ _ h5, hs _ _ h6, hs _ _ h7]

/-- Both ways: what adds in two places and agrees on the bits agrees. -/
theorem add_ext2 {n : Nat} (f g : B8 → B8 → BitVec n) (hf : ∀ x y z, f (x ^^^ y) z = f x z ^^^ f y z) (hf' : ∀ x y z, f x (y ^^^ z) = f x y ^^^ f x z)
    (hg : ∀ x y z, g (x ^^^ y) z = g x z ^^^ g y z) (hg' : ∀ x y z, g x (y ^^^ z) = g x y ^^^ g x z)
    (h : ∀ i j : Fin 8, f (1#8 <<< i.val) (1#8 <<< j.val) = g (1#8 <<< i.val) (1#8 <<< j.val)) : ∀ x y, f x y = g x y := by
  have hb : ∀ (i : Fin 8) (y : B8), f (1#8 <<< i.val) y = g (1#8 <<< i.val) y := fun i =>
    add_ext (f (1#8 <<< i.val)) (g (1#8 <<< i.val)) (hf' _) (hg' _) (h i 0) (h i 1) (h i 2) (h i 3) (h i 4) (h i 5) (h i 6) (h i 7)
  intro x y
  exact add_ext (fun x => f x y) (fun x => g x y) (fun x z => hf x z y) (fun x z => hg x z y) (hb 0 y) (hb 1 y) (hb 2 y) (hb 3 y) (hb 4 y) (hb 5 y) (hb 6 y) (hb 7 y) x

theorem gm_comm (a b : B8) : gm a b = gm b a :=
  add_ext2 gm (fun a b => gm b a) (fun x y z => gm_add_left x y z) (fun x y z => gm_add_right x y z) (fun x y z => gm_add_right z x y) (fun x y z => gm_add_left y z x) (by decide +kernel) a b

theorem gm_assoc (a b c : B8) : gm (gm a b) c = gm a (gm b c) := by
  have h : ∀ i j k : Fin 8, gm (gm (1#8 <<< i.val) (1#8 <<< j.val)) (1#8 <<< k.val) = gm (1#8 <<< i.val) (gm (1#8 <<< j.val) (1#8 <<< k.val)) := by decide +kernel
  have h2 : ∀ (k : Fin 8) (a b : B8), gm (gm a b) (1#8 <<< k.val) = gm a (gm b (1#8 <<< k.val)) := fun k =>
    add_ext2 (fun a b => gm (gm a b) (1#8 <<< k.val)) (fun a b => gm a (gm b (1#8 <<< k.val)))
      (fun x y z => by simp only [gm_add_left]) (fun x y z => by simp only [gm_add_right, gm_add_left]) (fun x y z => by simp only [gm_add_left]) (fun x y z => by simp only [gm_add_left, gm_add_right])
      (fun i j => h i j k)
  exact add_ext (fun c => gm (gm a b) c) (fun c => gm a (gm b c)) (fun x y => by simp only [gm_add_right]) (fun x y => by simp only [gm_add_right])
    (h2 0 a b) (h2 1 a b) (h2 2 a b) (h2 3 a b) (h2 4 a b) (h2 5 a b) (h2 6 a b) (h2 7 a b) c

theorem gm_one (a : B8) : gm a 1#8 = a := by
  have h : ∀ a : B8, gm a 1#8 = a := by decide +kernel
  exact h a
theorem one_gm (a : B8) : gm 1#8 a = a := by rw [gm_comm, gm_one]
theorem gm_zero (a : B8) : gm a 0#8 = 0#8 := by
  have := gm_add_right a 0#8 0#8
  simpa using this
theorem zero_gm (a : B8) : gm 0#8 a = 0#8 := by rw [gm_comm, gm_zero]

/-- The inverse: the power before the last. -/
def sq (a : B8) : B8 := gm a a
def gi (a : B8) : B8 :=
  let a2 := sq a; let a4 := sq a2; let a8 := sq a4; let a16 := sq a8; let a32 := sq a16; let a64 := sq a32; let a128 := sq a64
  gm (gm (gm (gm (gm (gm a2 a4) a8) a16) a32) a64) a128
theorem gm_gi (a : B8) (h : a ≠ 0#8) : gm a (gi a) = 1#8 := by
  have : ∀ a : B8, a = 0#8 ∨ gm a (gi a) = 1#8 := by decide +kernel
  rcases this a with h' | h'
  · exact absurd h' h
  · exact h'
theorem gi_gm (a : B8) (h : a ≠ 0#8) : gm (gi a) a = 1#8 := by rw [gm_comm, gm_gi a h]
theorem gm_cancel {a b c : B8} (h : a ≠ 0#8) (he : gm a b = gm a c) : b = c := by
  have := congrArg (gm (gi a)) he
  rwa [← gm_assoc, ← gm_assoc, gi_gm a h, one_gm, one_gm] at this
theorem gm_eq_zero {a b : B8} (h : gm a b = 0#8) : a = 0#8 ∨ b = 0#8 := by
  by_cases ha : a = 0#8
  · exact .inl ha
  · exact .inr (gm_cancel ha (by rw [h, gm_zero]))
theorem gi_ne {a : B8} (h : a ≠ 0#8) : gi a ≠ 0#8 := by
  intro he
  have := gm_gi a h
  rw [he, gm_zero] at this
  exact absurd this (by decide)
theorem gi_unique {a b : B8} (h : gm a b = 1#8) : b = gi a := by
  have ha : a ≠ 0#8 := by
    intro h0
    rw [h0, zero_gm] at h
    exact absurd h (by decide)
  exact gm_cancel ha (by rw [h, gm_gi a ha])

theorem xor_eq_zero {n : Nat} {a b : BitVec n} (h : a ^^^ b = 0#n) : a = b := by
  have := congrArg (· ^^^ b) h
  simpa [BitVec.xor_assoc] using this
theorem xor_ne {n : Nat} {a b : BitVec n} (h : a ≠ b) : a ^^^ b ≠ 0#n := fun he => h (xor_eq_zero he)

/-! The program's own way: four bits at a time, and a table of what leaves the highest place. -/
abbrev B16 := BitVec 16
def partF (a four : B8) : B16 :=
  sel (four.getLsbD 0) (a.setWidth 16) ^^^ (sel (four.getLsbD 1) (a.setWidth 16 <<< 1) ^^^ (sel (four.getLsbD 2) (a.setWidth 16 <<< 2) ^^^ sel (four.getLsbD 3) (a.setWidth 16 <<< 3)))
def foldT : List B8 := [0x00#8, 0x1d#8, 0x3a#8, 0x27#8, 0x74#8, 0x69#8, 0x4e#8, 0x53#8, 0xe8#8, 0xf5#8, 0xd2#8, 0xcf#8, 0x9c#8, 0x81#8, 0xa6#8, 0xbb#8]
def foldF (p : B16) : B8 :=
  sel (p.getLsbD 8) 0x1d#8 ^^^ (sel (p.getLsbD 9) 0x3a#8 ^^^ (sel (p.getLsbD 10) 0x74#8 ^^^ sel (p.getLsbD 11) 0xe8#8))
def settleF (p : B16) : B8 := p.setWidth 8 ^^^ foldF p
def mulF (a b : B8) : B8 := settleF (((settleF (partF a (b >>> 4))).setWidth 16 <<< 4) ^^^ partF a (b &&& 15#8))

theorem xor_and {n : Nat} (x y m : BitVec n) : (x ^^^ y) &&& m = (x &&& m) ^^^ (y &&& m) := by
  ext i hi
  simp [Bool.and_xor_distrib_right]
theorem setWidth_xor8 (a b : B8) : (a ^^^ b).setWidth 16 = a.setWidth 16 ^^^ b.setWidth 16 := BitVec.setWidth_xor
theorem partF_left (a b c : B8) : partF (a ^^^ b) c = partF a c ^^^ partF b c := by
  simp only [partF, setWidth_xor8, BitVec.shiftLeft_xor_distrib, sel_add]
  ac_rfl
theorem partF_right (a b c : B8) : partF a (b ^^^ c) = partF a b ^^^ partF a c := by
  simp only [partF, BitVec.getLsbD_xor, sel_xor]
  ac_rfl
theorem foldF_add (p q : B16) : foldF (p ^^^ q) = foldF p ^^^ foldF q := by
  simp only [foldF, BitVec.getLsbD_xor, sel_xor]
  ac_rfl
theorem settleF_add (p q : B16) : settleF (p ^^^ q) = settleF p ^^^ settleF q := by
  simp only [settleF, foldF_add, BitVec.setWidth_xor]
  ac_rfl
theorem mulF_eq (a b : B8) : mulF a b = gm a b :=
  add_ext2 mulF gm (fun x y z => by simp only [mulF, partF_left, settleF_add, setWidth_xor8, BitVec.shiftLeft_xor_distrib]; ac_rfl)
    (fun x y z => by simp only [mulF, BitVec.ushiftRight_xor_distrib, xor_and, partF_right, settleF_add, setWidth_xor8, BitVec.shiftLeft_xor_distrib]; ac_rfl)
    gm_add_left gm_add_right (by decide +kernel) a b

end Go.Proofs.YtibidlgikecelaaDoor

namespace Go.Proofs.YtibidlgikecelaaDoor
set_option linter.unusedVariables false
set_option linter.unusedSimpArgs false

/-- The sum of f 0 .. f (n - 1). -/
def xs : Nat → (Nat → B8) → B8
  | 0, _ => 0#8
  | n + 1, f => xs n f ^^^ f n
theorem xs_congr {n : Nat} {f g : Nat → B8} (h : ∀ i, i < n → f i = g i) : xs n f = xs n g := by
  induction n with
  | zero => rfl
  | succ n ih => rw [xs, xs, ih (fun i hi => h i (by omega)), h n (by omega)]
theorem xs_add (n : Nat) (f g : Nat → B8) : xs n (fun i => f i ^^^ g i) = xs n f ^^^ xs n g := by
  induction n with
  | zero => simp [xs]
  | succ n ih => simp only [xs, ih]; ac_rfl
theorem xs_zero (n : Nat) : xs n (fun _ => 0#8) = 0#8 := by
  induction n with
  | zero => rfl
  | succ n ih => rw [xs, ih]; rfl
theorem xs_nil {n : Nat} {f : Nat → B8} (h : ∀ i, i < n → f i = 0#8) : xs n f = 0#8 := by
  rw [xs_congr h, xs_zero]
theorem gm_xs (a : B8) (n : Nat) (f : Nat → B8) : gm a (xs n f) = xs n (fun i => gm a (f i)) := by
  induction n with
  | zero => exact gm_zero a
  | succ n ih => simp only [xs, gm_add_right, ih]
theorem xs_gm (n : Nat) (f : Nat → B8) (a : B8) : gm (xs n f) a = xs n (fun i => gm (f i) a) := by
  rw [gm_comm, gm_xs]; exact xs_congr fun i _ => gm_comm _ _
theorem xs_swap (n m : Nat) (F : Nat → Nat → B8) : xs n (fun i => xs m (fun j => F i j)) = xs m (fun j => xs n (fun i => F i j)) := by
  induction n with
  | zero => exact (xs_zero m).symm
  | succ n ih => simp only [xs, ih, xs_add]
theorem xs_single {n k : Nat} (f : Nat → B8) (hk : k < n) (h : ∀ i, i < n → i ≠ k → f i = 0#8) : xs n f = f k := by
  induction n with
  | zero => omega
  | succ n ih =>
    rw [xs]
    by_cases e : k = n
    · subst e
      rw [xs_nil fun i hi => h i (by omega) (by omega)]
      simp
    · rw [ih (by omega) fun i hi => h i (by omega), h n (by omega) (fun e' => e e'.symm)]
      simp

abbrev Mx := Nat → Nat → B8
def mulM (n : Nat) (A B : Mx) : Mx := fun i j => xs n fun k => gm (A i k) (B k j)
def oneM : Mx := fun i j => if i = j then 1#8 else 0#8
/-- Equal in r rows and c columns. -/
def EqM (r c : Nat) (A B : Mx) : Prop := ∀ i j, i < r → j < c → A i j = B i j
theorem EqM.refl (r c : Nat) (A : Mx) : EqM r c A A := fun _ _ _ _ => rfl
theorem EqM.symm {r c : Nat} {A B : Mx} (h : EqM r c A B) : EqM r c B A := fun i j hi hj => (h i j hi hj).symm
theorem EqM.trans {r c : Nat} {A B C : Mx} (h : EqM r c A B) (k : EqM r c B C) : EqM r c A C := fun i j hi hj => (h i j hi hj).trans (k i j hi hj)
theorem mulM_congr {r n c : Nat} {A A' B B' : Mx} (h : EqM r n A A') (k : EqM n c B B') : EqM r c (mulM n A B) (mulM n A' B') := by
  intro i j hi hj
  exact xs_congr fun l hl => by rw [h i l hi hl, k l j hl hj]
theorem mulM_assoc (n m : Nat) (A B C : Mx) (i j : Nat) : mulM m (mulM n A B) C i j = mulM n A (mulM m B C) i j := by
  unfold mulM
  simp only [xs_gm, gm_xs]
  rw [xs_swap]
  exact xs_congr fun k _ => xs_congr fun l _ => gm_assoc _ _ _
theorem mulM_one {n : Nat} (A : Mx) {i j : Nat} (hj : j < n) : mulM n A oneM i j = A i j := by
  unfold mulM
  rw [xs_single _ hj]
  · simp [oneM, gm_one]
  · intro k hk hne
    simp [oneM, hne, gm_zero]
theorem one_mulM {n : Nat} (A : Mx) {i j : Nat} (hi : i < n) : mulM n oneM A i j = A i j := by
  unfold mulM
  rw [xs_single _ hi]
  · simp [oneM, one_gm]
  · intro k hk hne
    simp [oneM, Ne.symm hne, zero_gm]

/-! ### Elimination -/
/-- Rows c and d change places. -/
def swapM (c d : Nat) (W : Mx) : Mx := fun r => if r = c then W d else if r = d then W c else W r
/-- Row c is multiplied by its inverse at c; all other rows lose their column c. -/
def clearM (c : Nat) (W : Mx) : Mx := fun r j => if r = c then gm (W c j) (gi (W c c)) else W r j ^^^ gm (gm (W c j) (gi (W c c))) (W r c)
/-- The first row from c on with something at column c. -/
def pivotM (n c : Nat) (W : Mx) : Option Nat := (List.range n).find? fun p => decide (c ≤ p) && decide (W p c ≠ 0#8)
def stepM (n c : Nat) (W : Mx) : Option Mx := (pivotM n c W).map fun p => clearM c (swapM c p W)
/-- The steps from column c on, k of them. -/
def elimM (n : Nat) : Nat → Nat → Mx → Option Mx
  | 0, _, W => some W
  | k + 1, c, W => (stepM n c W).bind fun V => elimM n k (c + 1) V
/-- The matrix, and ones beside it. -/
def sideM (n : Nat) (A : Mx) : Mx := fun i j => if j < n then A i j else if j = n + i then 1#8 else 0#8
def invM (n : Nat) (A : Mx) : Option Mx := (elimM n n 0 (sideM n A)).map fun W => fun i j => W i (n + j)

/-- F times E is one, and E times F. -/
structure Inv2 (n : Nat) (E F : Mx) : Prop where
  l : EqM n n (mulM n F E) oneM
  r : EqM n n (mulM n E F) oneM

/-- A change of rows: what it does is a product. -/
structure RowOp (n : Nat) (T : Mx → Mx) (E F : Mx) : Prop where
  does : ∀ W i j, i < n → T W i j = mulM n E W i j
  inv : Inv2 n E F

theorem Inv2.mul {n : Nat} {E F E' F' : Mx} (h : Inv2 n E F) (k : Inv2 n E' F') : Inv2 n (mulM n E' E) (mulM n F F') := by
  constructor
  · intro i j hi hj
    rw [mulM_assoc]
    have : EqM n n (mulM n F' (mulM n E' E)) E := fun a b ha hb => by
      rw [← mulM_assoc, mulM_congr k.l (EqM.refl n n E) a b ha hb, one_mulM _ ha]
    rw [mulM_congr (EqM.refl n n F) this i j hi hj]
    exact h.l i j hi hj
  · intro i j hi hj
    rw [mulM_assoc]
    have : EqM n n (mulM n E (mulM n F F')) F' := fun a b ha hb => by
      rw [← mulM_assoc, mulM_congr h.r (EqM.refl n n F') a b ha hb, one_mulM _ ha]
    rw [mulM_congr (EqM.refl n n E') this i j hi hj]
    exact k.r i j hi hj

theorem one_inv2 (n : Nat) : Inv2 n oneM oneM := ⟨fun i j hi hj => one_mulM _ hi, fun i j hi hj => one_mulM _ hi⟩

theorem swap_op {n c d : Nat} (hc : c < n) (hd : d < n) : RowOp n (swapM c d) (swapM c d oneM) (swapM c d oneM) := by
  have does : ∀ W i j, i < n → swapM c d W i j = mulM n (swapM c d oneM) W i j := by
    intro W i j hi
    have key : ∀ k, k < n → mulM n (fun _ => oneM k) W i j = W k j := fun k hk => one_mulM (i := k) W hk
    unfold swapM
    by_cases h1 : i = c
    · subst h1
      rw [if_pos rfl]
      have := key d hd
      rw [← this]
      unfold mulM
      simp
    · by_cases h2 : i = d
      · subst h2
        rw [if_neg h1, if_pos rfl]
        have := key c hc
        rw [← this]
        unfold mulM
        simp [h1]
      · rw [if_neg h1, if_neg h2]
        have := key i hi
        rw [← this]
        unfold mulM
        simp [h1, h2]
  refine ⟨does, ?_⟩
  have : EqM n n (mulM n (swapM c d oneM) (swapM c d oneM)) oneM := by
    intro i j hi hj
    rw [← does _ i j hi]
    unfold swapM
    by_cases h1 : i = c
    · subst h1
      by_cases h2 : d = i
      · subst h2; simp
      · simp [h2]
    · by_cases h2 : i = d
      · subst h2
        simp [h1]
      · simp [h1, h2]
  exact ⟨this, this⟩

/-- clearM as a product: u what row c is multiplied by, the rest what is added. -/
def clE (n c : Nat) (u : B8) (v : Nat → B8) : Mx := fun r j => if r = c then (if j = c then u else 0#8) else (if j = r then 1#8 else if j = c then gm u (v r) else 0#8)
def clF (n c : Nat) (u : B8) (v : Nat → B8) : Mx := fun r j => if r = c then (if j = c then gi u else 0#8) else (if j = r then 1#8 else if j = c then v r else 0#8)

theorem xs_two {n a b : Nat} (f : Nat → B8) (ha : a < n) (hb : b < n) (hab : a ≠ b) (h : ∀ i, i < n → i ≠ a → i ≠ b → f i = 0#8) : xs n f = f a ^^^ f b := by
  have e : xs n f = xs n (fun i => (if i = a then f i else 0#8) ^^^ (if i = a then 0#8 else f i)) := xs_congr fun i _ => by split <;> simp
  rw [e, xs_add, xs_single _ ha (fun i _ hne => by simp [hne]), xs_single (fun i => if i = a then 0#8 else f i) hb (fun i hi hne => by
    show (if i = a then 0#8 else f i) = 0#8
    split
    · rfl
    · exact h i hi (by assumption) hne)]
  simp [Ne.symm hab]

theorem clE_mul {n c : Nat} (u : B8) (v : Nat → B8) (W : Mx) {i j : Nat} (hc : c < n) (hi : i < n) :
    mulM n (clE n c u v) W i j = if i = c then gm u (W c j) else W i j ^^^ gm (gm u (v i)) (W c j) := by
  unfold mulM
  by_cases h : i = c
  · subst h
    rw [if_pos rfl, xs_single _ hi]
    · simp [clE]
    · intro k _ hk
      simp [clE, hk, zero_gm]
  · rw [if_neg h, xs_two _ hi hc h]
    · simp [clE, h, one_gm, Ne.symm h]
    · intro k _ h1 h2
      simp [clE, h, h1, h2, zero_gm]

theorem clF_mul {n c : Nat} (u : B8) (v : Nat → B8) (W : Mx) {i j : Nat} (hc : c < n) (hi : i < n) :
    mulM n (clF n c u v) W i j = if i = c then gm (gi u) (W c j) else W i j ^^^ gm (v i) (W c j) := by
  unfold mulM
  by_cases h : i = c
  · subst h
    rw [if_pos rfl, xs_single _ hi]
    · simp [clF]
    · intro k _ hk
      simp [clF, hk, zero_gm]
  · rw [if_neg h, xs_two _ hi hc h]
    · simp [clF, h, one_gm, Ne.symm h]
    · intro k _ h1 h2
      simp [clF, h, h1, h2, zero_gm]

theorem cl_inv2 {n c : Nat} {u : B8} (hu : u ≠ 0#8) (v : Nat → B8) (hc : c < n) : Inv2 n (clE n c u v) (clF n c u v) := by
  constructor
  · intro i j hi hj
    rw [clF_mul _ _ _ hc hi]
    by_cases h : i = c
    · subst h
      rw [if_pos rfl]
      by_cases hj' : j = i
      · subst hj'; simp [clE, oneM, gi_gm u hu]
      · simp [clE, oneM, hj', gm_zero, Ne.symm hj']
    · rw [if_neg h]
      by_cases h1 : j = i
      · subst h1; simp [clE, h, oneM, gm_zero]
      · by_cases h2 : j = c
        · subst h2
          simp [clE, h, oneM, Ne.symm h]
          rw [gm_comm u (v i)]
        · simp [clE, h, h1, h2, oneM, gm_zero, Ne.symm h1]
  · intro i j hi hj
    rw [clE_mul _ _ _ hc hi]
    by_cases h : i = c
    · subst h
      rw [if_pos rfl]
      by_cases hj' : j = i
      · subst hj'; simp [clF, oneM, gm_gi u hu]
      · simp [clF, oneM, hj', gm_zero, Ne.symm hj']
    · rw [if_neg h]
      by_cases h1 : j = i
      · subst h1; simp [clF, h, oneM, gm_zero]
      · by_cases h2 : j = c
        · subst h2
          simp [clF, h, oneM, Ne.symm h]
          rw [gm_comm u (v i), gm_assoc, gm_gi u hu, gm_one]
        · simp [clF, h, h1, h2, oneM, gm_zero, Ne.symm h1]

theorem clear_does {n c : Nat} (W V : Mx) (hc : c < n) {i j : Nat} (hi : i < n) (hV : ∀ i, i < n → V i c = W i c) :
    (if i = c then gm (V c j) (gi (W c c)) else V i j ^^^ gm (gm (V c j) (gi (W c c))) (W i c)) = mulM n (clE n c (gi (W c c)) (fun r => W r c)) V i j := by
  rw [clE_mul _ _ _ hc hi]
  by_cases h : i = c
  · rw [if_pos h, if_pos h, gm_comm]
  · rw [if_neg h, if_neg h]
    congr 1
    rw [gm_comm (V c j), gm_assoc, gm_assoc, gm_comm (V c j)]

theorem pivot_some {n c p : Nat} {W : Mx} (h : pivotM n c W = some p) : c ≤ p ∧ p < n ∧ W p c ≠ 0#8 := by
  unfold pivotM at h
  have h1 := List.find?_some h
  have h2 := List.mem_of_find?_eq_some h
  simp at h1 h2
  exact ⟨h1.1, h2, h1.2⟩
theorem pivot_none {n c : Nat} {W : Mx} (h : pivotM n c W = none) : ∀ p, c ≤ p → p < n → W p c = 0#8 := by
  unfold pivotM at h
  rw [List.find?_eq_none] at h
  intro p h1 h2
  have := h p (List.mem_range.2 h2)
  simpa [h1] using this

/-- W is S by a change of rows that can be taken back, and has ones in its first c columns. -/
structure Gone (n c : Nat) (S W : Mx) : Prop where
  by' : ∃ E F, Inv2 n E F ∧ ∀ i j, i < n → W i j = mulM n E S i j
  ones : ∀ i j, i < n → j < c → W i j = oneM i j

theorem Gone.start (n : Nat) (S : Mx) : Gone n 0 S S :=
  ⟨⟨oneM, oneM, one_inv2 n, fun i j hi => (one_mulM S hi).symm⟩, fun i j _ hj => by omega⟩

theorem Gone.op {n : Nat} {S W V E F : Mx} (h : ∃ E F, Inv2 n E F ∧ ∀ i j, i < n → W i j = mulM n E S i j) (k : Inv2 n E F) (hV : ∀ i j, i < n → V i j = mulM n E W i j) :
    ∃ E F, Inv2 n E F ∧ ∀ i j, i < n → V i j = mulM n E S i j := by
  obtain ⟨E', F', h1, h2⟩ := h
  refine ⟨_, _, h1.mul k, fun i j hi => ?_⟩
  rw [hV i j hi, mulM_assoc]
  exact xs_congr fun l hl => by rw [h2 l j hl]

theorem Gone.step {n c : Nat} {S W V : Mx} (h : Gone n c S W) (hc : c < n) (hs : stepM n c W = some V) : Gone n (c + 1) S V := by
  unfold stepM at hs
  obtain ⟨p, hp, rfl⟩ := Option.map_eq_some_iff.1 hs
  obtain ⟨h1, h2, h3⟩ := pivot_some hp
  have hsw := swap_op hc h2
  have hb1 := Gone.op h.by' hsw.inv (hsw.does W)
  have hones : ∀ i j, i < n → j < c → swapM c p W i j = oneM i j := by
    intro i j hi hj
    unfold swapM
    by_cases e1 : i = c
    · subst e1
      rw [if_pos rfl, h.ones p j h2 hj]
      unfold oneM
      rw [if_neg (by omega), if_neg (by omega)]
    · rw [if_neg e1]
      by_cases e2 : i = p
      · subst e2
        rw [if_pos rfl, h.ones c j hc hj]
        unfold oneM
        rw [if_neg (by omega), if_neg (by omega)]
      · rw [if_neg e2]; exact h.ones i j hi hj
  have hcc : swapM c p W c c = W p c := by simp [swapM]
  generalize hV : swapM c p W = V at *
  have hne : V c c ≠ 0#8 := by rw [hcc]; exact h3
  refine ⟨Gone.op hb1 (cl_inv2 (gi_ne hne) (fun r => V r c) hc) (fun i j hi => clear_does V V hc hi fun _ _ => rfl), ?_⟩
  intro i j hi hj
  unfold clearM
  by_cases e : j < c
  · have hz : V c j = 0#8 := by rw [hones c j hc e]; unfold oneM; rw [if_neg (by omega)]
    by_cases e1 : i = c
    · subst e1
      rw [if_pos rfl, hz, zero_gm]
      unfold oneM; rw [if_neg (by omega)]
    · rw [if_neg e1, hz, zero_gm, zero_gm, hones i j hi e]
      simp
  · obtain rfl : j = c := by omega
    by_cases e1 : i = j
    · subst e1
      rw [if_pos rfl, gm_gi _ hne]
      simp [oneM]
    · rw [if_neg e1, gm_gi _ hne, one_gm]
      simp [oneM, e1]

theorem Gone.elim {n : Nat} {S : Mx} : ∀ (k c : Nat) (W V : Mx), Gone n c S W → c + k = n → elimM n k c W = some V → Gone n n S V
  | 0, c, W, V, h, hc, he => by
    cases he
    obtain rfl : c = n := by omega
    exact h
  | k + 1, c, W, V, h, hc, he => by
    unfold elimM at he
    obtain ⟨U, h1, h2⟩ := Option.bind_eq_some_iff.1 he
    exact Gone.elim k (c + 1) U V (h.step (by omega) h1) (by omega) h2
theorem Gone.stuck {n : Nat} {S : Mx} : ∀ (k c : Nat) (W : Mx), Gone n c S W → c + k = n → elimM n k c W = none → ∃ d U, d < n ∧ Gone n d S U ∧ pivotM n d U = none
  | 0, c, W, h, hc, he => by cases he
  | k + 1, c, W, h, hc, he => by
    unfold elimM at he
    cases hs : stepM n c W with
    | none =>
      refine ⟨c, W, by omega, h, ?_⟩
      unfold stepM at hs
      simpa using hs
    | some V =>
      rw [hs] at he
      exact Gone.stuck k (c + 1) V (h.step (by omega) hs) (by omega) he

/-- An inverse is one from both sides. -/
theorem inv_some {n : Nat} {A R : Mx} (h : invM n A = some R) : Inv2 n A R := by
  unfold invM at h
  obtain ⟨W, hW, rfl⟩ := Option.map_eq_some_iff.1 h
  have g := Gone.elim n 0 _ W (Gone.start n _) (by omega) hW
  obtain ⟨E, F, hEF, hE⟩ := g.by'
  have hR : EqM n n (fun i j => W i (n + j)) E := by
    intro i j hi hj
    show W i (n + j) = E i j
    rw [hE i (n + j) hi]
    unfold mulM
    rw [xs_single _ hj]
    · unfold sideM
      rw [if_neg (by omega), if_pos rfl, gm_one]
    · intro k hk hne
      unfold sideM
      rw [if_neg (by omega), if_neg (by omega), gm_zero]
  have hEA : EqM n n (mulM n E A) oneM := by
    intro i j hi hj
    rw [← g.ones i j hi hj, hE i j hi]
    exact xs_congr fun k hk => by unfold sideM; rw [if_pos hj]
  have hAF : EqM n n A F := by
    intro i j hi hj
    rw [← mulM_one F hj, ← mulM_congr (EqM.refl n n F) hEA i j hi hj, ← mulM_assoc, mulM_congr hEF.l (EqM.refl n n A) i j hi hj, one_mulM _ hi]
  constructor
  · exact (mulM_congr hR (EqM.refl n n A)).trans hEA
  · exact (mulM_congr hAF hR).trans hEF.l

/-- What has none takes something to nought. -/
theorem inv_none {n : Nat} {A : Mx} (h : invM n A = none) : ∃ v : Nat → B8, (∃ j, j < n ∧ v j ≠ 0#8) ∧ ∀ i, i < n → xs n (fun j => gm (A i j) (v j)) = 0#8 := by
  unfold invM at h
  have h' : elimM n n 0 (sideM n A) = none := by simpa using h
  obtain ⟨d, U, hd, g, hp⟩ := Gone.stuck n 0 _ (Gone.start n _) (by omega) h'
  have hz := pivot_none hp
  obtain ⟨E, F, hEF, hE⟩ := g.by'
  refine ⟨fun j => if j < d then U j d else if j = d then 1#8 else 0#8, ⟨d, hd, by simp⟩, ?_⟩
  have hU' : ∃ v : Nat → B8, v = (fun j => if j < d then U j d else if j = d then 1#8 else 0#8) := ⟨_, rfl⟩
  have hU : ∀ i, i < n → xs n (fun j => gm (U i j) (if j < d then U j d else if j = d then 1#8 else 0#8)) = 0#8 := by
    intro i hi
    by_cases e : i < d
    · rw [xs_two (a := i) (b := d) _ hi hd (by omega)]
      · simp [e, g.ones i i hi e, oneM, one_gm, gm_one]
      · intro j hj h1 h2
        by_cases e2 : j < d
        · rw [g.ones i j hi e2]
          simp [oneM, Ne.symm h1, zero_gm]
        · simp [e2, h2, gm_zero]
    · rw [xs_nil]
      intro j hj
      by_cases e2 : j < d
      · rw [g.ones i j hi e2]
        unfold oneM
        rw [if_neg (by omega), zero_gm]
      · by_cases e3 : j = d
        · subst e3
          rw [hz i (by omega) hi, zero_gm]
        · simp [e2, e3, gm_zero]
  obtain ⟨v, hv⟩ := hU'
  replace hU : ∀ i, i < n → xs n (fun j => gm (U i j) (v j)) = 0#8 := by rw [hv]; exact hU
  rw [← hv]
  clear hv
  intro i hi
  -- A v = F (E A v)
  have hEA : ∀ i j, i < n → j < n → U i j = mulM n E A i j := by
    intro i j hi hj
    rw [hE i j hi]
    exact xs_congr fun k hk => by unfold sideM; rw [if_pos hj]
  have hA : ∀ j, j < n → A i j = mulM n F U i j := by
    intro j hj
    have : mulM n F U i j = mulM n F (mulM n E A) i j := xs_congr fun k hk => by rw [hEA k j hk hj]
    rw [this, ← mulM_assoc, mulM_congr hEF.l (EqM.refl n n A) i j hi hj, one_mulM _ hi]
  have e1 : xs n (fun j => gm (A i j) (v j)) = xs n (fun j => xs n (fun k => gm (F i k) (gm (U k j) (v j)))) := xs_congr fun j hj => by
    rw [hA j hj]
    unfold mulM
    rw [xs_gm]
    exact xs_congr fun k _ => gm_assoc _ _ _
  rw [e1, xs_swap]
  refine xs_nil fun k hk => ?_
  rw [← gm_xs, hU k hk, gm_zero]

/-- What has a left inverse takes nothing but nought to nought. -/
theorem no_kernel {n : Nat} {A B : Mx} (h : EqM n n (mulM n B A) oneM) {v : Nat → B8} (hv : ∀ i, i < n → xs n (fun j => gm (A i j) (v j)) = 0#8) : ∀ j, j < n → v j = 0#8 := by
  intro j hj
  have e : v j = xs n (fun k => gm (oneM j k) (v k)) := by
    rw [xs_single _ hj]
    · simp [oneM, one_gm]
    · intro i _ hne
      simp [oneM, Ne.symm hne, zero_gm]
  rw [e]
  have e2 : xs n (fun k => gm (oneM j k) (v k)) = xs n (fun k => xs n (fun l => gm (B j l) (gm (A l k) (v k)))) := xs_congr fun k hk => by
    rw [← h j k hj hk]
    unfold mulM
    rw [xs_gm]
    exact xs_congr fun l _ => gm_assoc _ _ _
  rw [e2, xs_swap]
  refine xs_nil fun l hl => ?_
  rw [← gm_xs, hv l hl, gm_zero]

theorem inv_of_left {n : Nat} {A B : Mx} (h : EqM n n (mulM n B A) oneM) : ∃ R, invM n A = some R ∧ EqM n n R B := by
  cases hi : invM n A with
  | none =>
    obtain ⟨v, ⟨j, hj, hne⟩, hv⟩ := inv_none hi
    exact absurd (no_kernel h hv j hj) hne
  | some R =>
    refine ⟨R, rfl, ?_⟩
    have g := inv_some hi
    intro i j hi hj
    rw [← one_mulM R hi, ← mulM_congr h (EqM.refl n n R) i j hi hj, mulM_assoc, mulM_congr (EqM.refl n n B) g.r i j hi hj, mulM_one _ hj]

/-- A matrix with a row twice has none. -/
theorem inv_twice {n : Nat} {A : Mx} {a b : Nat} (ha : a < n) (hb : b < n) (hab : a ≠ b) (h : ∀ j, j < n → A a j = A b j) : invM n A = none := by
  cases hi : invM n A with
  | none => rfl
  | some R =>
    have g := inv_some hi
    have h1 := g.r a a ha ha
    have h2 := g.r b a hb ha
    have h3 : mulM n A R a a = mulM n A R b a := xs_congr fun k hk => by rw [h k hk]
    rw [h1, h2] at h3
    simp [oneM, Ne.symm hab] at h3

end Go.Proofs.YtibidlgikecelaaDoor

namespace Go.Proofs.YtibidlgikecelaaDoor
set_option linter.unusedVariables false
set_option linter.unusedSimpArgs false

/-- The sum over a list. -/
def sumL {α : Type} (l : List α) (f : α → B8) : B8 := l.foldr (fun x s => f x ^^^ s) 0#8
theorem sumL_cons {α : Type} (x : α) (l : List α) (f : α → B8) : sumL (x :: l) f = f x ^^^ sumL l f := rfl
theorem sumL_congr {α : Type} {l : List α} {f g : α → B8} (h : ∀ x, x ∈ l → f x = g x) : sumL l f = sumL l g := by
  induction l with
  | nil => rfl
  | cons x l ih => rw [sumL_cons, sumL_cons, h x (by simp), ih fun y hy => h y (by simp [hy])]
theorem sumL_add {α : Type} (l : List α) (f g : α → B8) : sumL l (fun x => f x ^^^ g x) = sumL l f ^^^ sumL l g := by
  induction l with
  | nil => simp [sumL]
  | cons x l ih => simp only [sumL_cons, ih]; ac_rfl
theorem gm_sumL {α : Type} (a : B8) (l : List α) (f : α → B8) : gm a (sumL l f) = sumL l (fun x => gm a (f x)) := by
  induction l with
  | nil => exact gm_zero a
  | cons x l ih => simp only [sumL_cons, gm_add_right, ih]
theorem sumL_append {α : Type} (l m : List α) (f : α → B8) : sumL (l ++ m) f = sumL l f ^^^ sumL m f := by
  induction l with
  | nil => simp [sumL]
  | cons x l ih => rw [List.cons_append, sumL_cons, sumL_cons, ih, BitVec.xor_assoc]
theorem xs_sumL (n : Nat) (f : Nat → B8) : xs n f = sumL (List.range n) f := by
  induction n with
  | zero => rfl
  | succ n ih => rw [List.range_succ, sumL_append, xs, ih]; simp [sumL]
theorem sumL_filter {α : Type} (p : α → Bool) (f : α → B8) : ∀ l : List α, (∀ x, x ∈ l → p x = false → f x = 0#8) → sumL l f = sumL (l.filter p) f
  | [], _ => rfl
  | x :: l, h => by
    rw [sumL_cons, sumL_filter p f l fun y hy => h y (by simp [hy])]
    cases hp : p x with
    | true => rw [List.filter_cons_of_pos hp, sumL_cons]
    | false => rw [List.filter_cons_of_neg (by simp [hp]), h x (by simp) hp]; simp

theorem sumL_map {α β : Type} (g : β → α) (l : List β) (f : α → B8) : sumL (l.map g) f = sumL l fun x => f (g x) := by
  unfold sumL; rw [List.foldr_map]
theorem length_parts {α : Type} (l : List α) (p : α → Bool) : l.length = (l.filter p).length + (l.filter fun x => !p x).length := by
  induction l with
  | nil => rfl
  | cons x l ih => cases h : p x <;> simp [h] <;> omega

theorem gm_div {a b d : B8} (ha : a ≠ 0#8) (hb : b ≠ 0#8) :
    gm (a ^^^ d) (gi a) ^^^ gm (b ^^^ d) (gi b) = gm (a ^^^ b) (gm (gm d (gi b)) (gi a)) := by
  rw [gm_add_left, gm_add_left, gm_add_left, gm_gi a ha, gm_gi b hb]
  have e1 : gm a (gm (gm d (gi b)) (gi a)) = gm d (gi b) := by
    rw [gm_comm (gm d (gi b)), ← gm_assoc, gm_gi a ha, one_gm]
  have e2 : gm b (gm (gm d (gi b)) (gi a)) = gm d (gi a) := by
    rw [gm_comm d, gm_assoc (gi b), ← gm_assoc, gm_gi b hb, one_gm]
  rw [e1, e2]
  have : ∀ u x y : B8, u ^^^ x ^^^ (u ^^^ y) = y ^^^ x := by
    intro u x y
    have : u ^^^ x ^^^ (u ^^^ y) = (u ^^^ u) ^^^ (y ^^^ x) := by ac_rfl
    rw [this]; simp
  rw [this]

/-- Noughts alone: the sums of quotients. -/
theorem cauchy : ∀ (ys : List (B8 × B8)) (zs : List B8), ys.length ≤ zs.length → zs.Pairwise (· ≠ ·) → ys.Pairwise (fun p q => p.1 ≠ q.1) → (∀ x, x ∈ zs → ∀ p, p ∈ ys → x ≠ p.1) →
    (∀ x, x ∈ zs → sumL ys (fun p => gm p.2 (gi (x ^^^ p.1))) = 0#8) → ∀ p, p ∈ ys → p.2 = 0#8
  | [], _, _, _, _, _, _, p, hp => by cases hp
  | (y0, v0) :: ys, [], h, _, _, _, _, _, _ => by simp at h
  | (y0, v0) :: ys, x0 :: zs, hlen, hz, hy, hne, hs, p, hp => by
    obtain ⟨hz1, hz2⟩ := List.pairwise_cons.1 hz
    obtain ⟨hy1, hy2⟩ := List.pairwise_cons.1 hy
    have hx0y0 : x0 ^^^ y0 ≠ 0#8 := xor_ne (hne x0 (by simp) (y0, v0) (by simp))
    have key := cauchy (ys.map fun q => (q.1, gm q.2 (gm (y0 ^^^ q.1) (gi (x0 ^^^ q.1))))) zs (by simpa using hlen) hz2
      (by rw [List.pairwise_map]; exact hy2)
      (by
        intro x hx q hq
        obtain ⟨q', hq', rfl⟩ := List.mem_map.1 hq
        exact hne x (by simp [hx]) q' (by simp [hq']))
      (by
        intro x hx
        have h1 := hs x (by simp [hx])
        have h2 := hs x0 (by simp)
        rw [sumL_cons] at h1 h2
        have hxy0 : x ^^^ y0 ≠ 0#8 := xor_ne (hne x (by simp [hx]) (y0, v0) (by simp))
        have hxx : x ^^^ x0 ≠ 0#8 := xor_ne (hz1 x hx).symm
        have m1 := congrArg (gm (x ^^^ y0)) h1
        have m2 := congrArg (gm (x0 ^^^ y0)) h2
        simp only [gm_add_right, gm_zero] at m1 m2
        have c1 : gm (x ^^^ y0) (gm v0 (gi (x ^^^ y0))) = v0 := by rw [gm_comm v0, ← gm_assoc, gm_gi _ hxy0, one_gm]
        have c2 : gm (x0 ^^^ y0) (gm v0 (gi (x0 ^^^ y0))) = v0 := by rw [gm_comm v0, ← gm_assoc, gm_gi _ hx0y0, one_gm]
        rw [c1] at m1
        rw [c2] at m2
        have e1 := xor_eq_zero m1
        have e2 := xor_eq_zero m2
        rw [gm_sumL] at e1 e2
        have e3 : sumL ys (fun q => gm (x ^^^ y0) (gm q.2 (gi (x ^^^ q.1))) ^^^ gm (x0 ^^^ y0) (gm q.2 (gi (x0 ^^^ q.1)))) = 0#8 := by
          rw [sumL_add, ← e1, ← e2]; simp
        have e4 : sumL (ys.map fun q => (q.1, gm q.2 (gm (y0 ^^^ q.1) (gi (x0 ^^^ q.1))))) (fun p => gm p.2 (gi (x ^^^ p.1))) = sumL ys (fun q => gm (gm q.2 (gm (y0 ^^^ q.1) (gi (x0 ^^^ q.1)))) (gi (x ^^^ q.1))) := by
          unfold sumL
          rw [List.foldr_map]
        rw [e4]
        have e5 : gm (x ^^^ x0) (sumL ys (fun q => gm (gm q.2 (gm (y0 ^^^ q.1) (gi (x0 ^^^ q.1)))) (gi (x ^^^ q.1)))) = 0#8 := by
          rw [gm_sumL, ← e3]
          refine sumL_congr fun q hq => ?_
          have ha : x ^^^ q.1 ≠ 0#8 := xor_ne (hne x (by simp [hx]) q (by simp [hq]))
          have hb : x0 ^^^ q.1 ≠ 0#8 := xor_ne (hne x0 (by simp) q (by simp [hq]))
          have hd := gm_div (d := y0 ^^^ q.1) ha hb
          have s1 : x ^^^ q.1 ^^^ (y0 ^^^ q.1) = x ^^^ y0 := by
            have : x ^^^ q.1 ^^^ (y0 ^^^ q.1) = (x ^^^ y0) ^^^ (q.1 ^^^ q.1) := by ac_rfl
            rw [this]; simp
          have s2 : x0 ^^^ q.1 ^^^ (y0 ^^^ q.1) = x0 ^^^ y0 := by
            have : x0 ^^^ q.1 ^^^ (y0 ^^^ q.1) = (x0 ^^^ y0) ^^^ (q.1 ^^^ q.1) := by ac_rfl
            rw [this]; simp
          have s3 : x ^^^ q.1 ^^^ (x0 ^^^ q.1) = x ^^^ x0 := by
            have : x ^^^ q.1 ^^^ (x0 ^^^ q.1) = (x ^^^ x0) ^^^ (q.1 ^^^ q.1) := by ac_rfl
            rw [this]; simp
          rw [s1, s2, s3] at hd
          have r1 : gm (x ^^^ y0) (gm q.2 (gi (x ^^^ q.1))) = gm q.2 (gm (x ^^^ y0) (gi (x ^^^ q.1))) := by rw [← gm_assoc, gm_comm (x ^^^ y0), gm_assoc]
          have r2 : gm (x0 ^^^ y0) (gm q.2 (gi (x0 ^^^ q.1))) = gm q.2 (gm (x0 ^^^ y0) (gi (x0 ^^^ q.1))) := by rw [← gm_assoc, gm_comm (x0 ^^^ y0), gm_assoc]
          rw [r1, r2, ← gm_add_right, hd]
          rw [gm_assoc, ← gm_assoc, gm_comm (x ^^^ x0), gm_assoc]
        rcases gm_eq_zero e5 with h | h
        · exact absurd h hxx
        · exact h)
    have hrest : ∀ q, q ∈ ys → q.2 = 0#8 := by
      intro q hq
      have := key _ (List.mem_map.2 ⟨q, hq, rfl⟩)
      rcases gm_eq_zero this with h | h
      · exact h
      · rcases gm_eq_zero h with h | h
        · exact absurd (xor_eq_zero h) (hy1 q hq)
        · exact absurd h (gi_ne (xor_ne (hne x0 (by simp) q (by simp [hq]))))
    rcases List.mem_cons.1 hp with rfl | hp
    · have h2 := hs x0 (by simp)
      rw [sumL_cons, sumL_congr (g := fun _ => 0#8) (fun q hq => by rw [hrest q hq, zero_gm])] at h2
      have hz : ∀ l : List (B8 × B8), sumL l (fun _ => 0#8) = 0#8 := by
        intro l
        induction l with
        | nil => rfl
        | cons x l ih => rw [sumL_cons, ih]; rfl
      rw [hz] at h2
      simp only [BitVec.xor_zero] at h2
      rcases gm_eq_zero h2 with h | h
      · exact h
      · exact absurd h (gi_ne hx0y0)
    · exact hrest p hp

/-- A code's matrix of K columns. -/
def genM (K : Nat) : Mx := fun i k => if i < K then (if i = k then 1#8 else 0#8) else gi (BitVec.ofNat 8 i ^^^ BitVec.ofNat 8 k)

theorem ofNat8_ne {a b : Nat} (ha : a < 256) (hb : b < 256) (h : a ≠ b) : BitVec.ofNat 8 a ≠ BitVec.ofNat 8 b := by
  intro he
  have := congrArg BitVec.toNat he
  rw [BitVec.toNat_ofNat, BitVec.toNat_ofNat, Nat.mod_eq_of_lt ha, Nat.mod_eq_of_lt hb] at this
  exact h this

theorem mds {K : Nat} {l : List Nat} (hl : l.length = K) (hnd : l.Pairwise (· ≠ ·)) (hlt : ∀ i, i ∈ l → i < 256) (hK : K ≤ 256) {v : Nat → B8}
    (hv : ∀ i, i ∈ l → xs K (fun k => gm (genM K i k) (v k)) = 0#8) : ∀ k, k < K → v k = 0#8 := by
  have h1 : ∀ i, i ∈ l → i < K → v i = 0#8 := by
    intro i hi hiK
    have := hv i hi
    rw [xs_single _ hiK] at this
    · simpa [genM, hiK, one_gm] using this
    · intro k _ hne
      simp [genM, hiK, Ne.symm hne, zero_gm]
  have hcount : ((List.range K).filter fun k => !decide (k ∈ l)).length ≤ (l.filter fun i => !decide (i < K)).length := by
    have e1 : ((List.range K).filter fun k => decide (k ∈ l)).Perm (l.filter fun i => decide (i < K)) := by
      rw [List.perm_ext_iff_of_nodup]
      · intro a
        simp [and_comm]
      · exact List.Pairwise.filter _ List.nodup_range
      · exact List.Pairwise.filter _ hnd
    have e2 := e1.length_eq
    have e3 := length_parts (List.range K) (fun k => decide (k ∈ l))
    have e4 := length_parts l (fun i => decide (i < K))
    rw [List.length_range] at e3
    omega
  have hc := cauchy (((List.range K).filter fun k => !decide (k ∈ l)).map fun k => (BitVec.ofNat 8 k, v k)) ((l.filter fun i => !decide (i < K)).map fun i => BitVec.ofNat 8 i) (by simpa using hcount)
    (by
      rw [List.pairwise_map]
      refine List.Pairwise.imp_of_mem ?_ (List.Pairwise.filter _ hnd)
      intro a b ha hb hab
      exact ofNat8_ne (hlt a (List.mem_filter.1 ha).1) (hlt b (List.mem_filter.1 hb).1) hab)
    (by
      rw [List.pairwise_map]
      refine List.Pairwise.imp_of_mem ?_ (List.Pairwise.filter _ List.nodup_range)
      intro a b ha hb hab
      have h1 := List.mem_range.1 (List.mem_filter.1 ha).1
      have h2 := List.mem_range.1 (List.mem_filter.1 hb).1
      exact ofNat8_ne (by omega) (by omega) hab)
    (by
      intro x hx p hp
      obtain ⟨i, hi, rfl⟩ := List.mem_map.1 hx
      obtain ⟨k, hk, rfl⟩ := List.mem_map.1 hp
      obtain ⟨hi1, hi2⟩ := List.mem_filter.1 hi
      have h1 := List.mem_range.1 (List.mem_filter.1 hk).1
      simp at hi2
      exact ofNat8_ne (hlt i hi1) (by omega) (by omega))
    (by
      intro x hx
      obtain ⟨i, hi, rfl⟩ := List.mem_map.1 hx
      obtain ⟨hi1, hi2⟩ := List.mem_filter.1 hi
      simp at hi2
      have := hv i hi1
      rw [xs_sumL, sumL_filter (fun k => !decide (k ∈ l))] at this
      · rw [← this, sumL_map]
        refine sumL_congr fun k hk => ?_
        simp only [genM]
        rw [if_neg (by omega), gm_comm]
      · intro k hk hp
        rw [h1 k (by simpa using hp) (List.mem_range.1 hk), gm_zero])
  intro k hk
  by_cases hkl : k ∈ l
  · exact h1 k hkl hk
  · exact hc (BitVec.ofNat 8 k, v k) (List.mem_map.2 ⟨k, List.mem_filter.2 ⟨List.mem_range.2 hk, by simpa using hkl⟩, rfl⟩)

/-- So they have an inverse. -/
theorem mds_inv {K : Nat} {l : List Nat} (hl : l.length = K) (hnd : l.Pairwise (· ≠ ·)) (hlt : ∀ i, i ∈ l → i < 256) (hK : K ≤ 256) :
    ∃ R, invM K (fun i k => genM K (l.getD i 0) k) = some R := by
  cases hi : invM K (fun i k => genM K (l.getD i 0) k) with
  | some R => exact ⟨R, rfl⟩
  | none =>
    obtain ⟨v, ⟨j, hj, hne⟩, hv⟩ := inv_none hi
    refine absurd (mds hl hnd hlt hK (v := v) ?_ j hj) hne
    intro i hi
    obtain ⟨n, hn, rfl⟩ := List.getElem_of_mem hi
    have := hv n (by omega)
    simpa [List.getD_eq_getElem?_getD, List.getElem?_eq_getElem hn] using this

end Go.Proofs.YtibidlgikecelaaDoor

namespace Go.Proofs.YtibidlgikecelaaDoor
set_option linter.unusedVariables false

/-- The first k places of b. -/
def cl16 (a b : B8) : Nat → B16
  | 0 => 0#16
  | k + 1 => cl16 a b k ^^^ sel (b.getLsbD k) (a.setWidth 16 <<< k)
/-- One place folded. -/
def red1 (i : Nat) (p : B16) : B16 := p ^^^ sel (p.getLsbD i) (0x11d#16 <<< (i - 8))
/-- The places from 14 down, k of them. -/
def redK : Nat → B16 → B16
  | 0, p => p
  | k + 1, p => red1 (14 - k) (redK k p)
def mulR (a b : B8) : B8 := (redK 7 (cl16 a b 8)).setWidth 8
theorem cl16_left (a b c : B8) : ∀ k, cl16 (a ^^^ b) c k = cl16 a c k ^^^ cl16 b c k
  | 0 => by simp [cl16]
  | k + 1 => by
    simp only [cl16, cl16_left a b c k, setWidth_xor8, BitVec.shiftLeft_xor_distrib, sel_add]
    ac_rfl
theorem cl16_right (a b c : B8) : ∀ k, cl16 a (b ^^^ c) k = cl16 a b k ^^^ cl16 a c k
  | 0 => by simp [cl16]
  | k + 1 => by
    simp only [cl16, cl16_right a b c k, BitVec.getLsbD_xor, sel_xor]
    ac_rfl
theorem red1_add (i : Nat) (p q : B16) : red1 i (p ^^^ q) = red1 i p ^^^ red1 i q := by
  simp only [red1, BitVec.getLsbD_xor, sel_xor]
  ac_rfl
theorem redK_add : ∀ (k : Nat) (p q : B16), redK k (p ^^^ q) = redK k p ^^^ redK k q
  | 0, p, q => rfl
  | k + 1, p, q => by rw [redK, redK_add k, red1_add]; rfl
theorem mulR_eq (a b : B8) : mulR a b = gm a b :=
  add_ext2 mulR gm (fun x y z => by simp only [mulR, cl16_left, redK_add, BitVec.setWidth_xor])
    (fun x y z => by simp only [mulR, cl16_right, redK_add, BitVec.setWidth_xor])
    gm_add_left gm_add_right (by decide +kernel) a b

end Go.Proofs.YtibidlgikecelaaDoor

namespace Go.Proofs.YtibidlgikecelaaDoor
set_option linter.unusedVariables false
set_option linter.unusedSimpArgs false

def zeroM : Mx := fun _ _ => 0#8
/-- A row with another row's multiple added. -/
def addR (f h : Nat → B8) (by' : B8) : Nat → B8 := fun j => f j ^^^ gm (h j) by'
/-- Row i is f. -/
def putR (M : Mx) (i : Nat) (f : Nat → B8) : Mx := fun k => if k = i then f else M k
/-- A product, its rows ahead of i done, k terms of row i. -/
def mulAt (n : Nat) (A B : Mx) (i k : Nat) : Mx := fun r j => if r < i then mulM n A B r j else if r = i then xs k (fun l => gm (B l j) (A i l)) else 0#8
theorem mulAt_start (n : Nat) (A B : Mx) : mulAt n A B 0 0 = zeroM := by
  funext r j
  unfold mulAt zeroM
  by_cases h : r = 0 <;> simp [h, xs]
theorem mulAt_step (n : Nat) (A B : Mx) (i k : Nat) : putR (mulAt n A B i k) i (addR (mulAt n A B i k i) (B k) (A i k)) = mulAt n A B i (k + 1) := by
  funext r j
  unfold putR addR mulAt
  by_cases h : r = i
  · subst h; simp [xs]
  · simp [h]
theorem mulAt_next (n : Nat) (A B : Mx) (i : Nat) : mulAt n A B i n = mulAt n A B (i + 1) 0 := by
  funext r j
  unfold mulAt
  by_cases h : r < i
  · simp [h, Nat.lt_succ_of_lt h]
  · by_cases h2 : r = i
    · subst h2
      simp only [Nat.lt_irrefl, if_false, if_true, Nat.lt_succ_self, mulM]
      exact xs_congr fun l _ => gm_comm _ _
    · have h3 : ¬ r < i + 1 := by omega
      rw [if_neg h, if_neg h2, if_neg h3]
      by_cases h4 : r = i + 1 <;> simp [h4, xs]
theorem mulAt_end (n r c : Nat) (A B : Mx) : EqM r c (mulAt n A B r 0) (mulM n A B) := by
  intro i j hi hj
  simp [mulAt, hi]

/-- Ones, down to row i. -/
def oneAt (i : Nat) : Mx := fun r j => if r < i then oneM r j else 0#8
theorem oneAt_start : oneAt 0 = zeroM := by funext r j; simp [oneAt, zeroM]
theorem oneAt_step (i : Nat) : putR (oneAt i) i (fun j => if j = i then 1#8 else oneAt i i j) = oneAt (i + 1) := by
  funext r j
  unfold putR oneAt
  by_cases h : r = i
  · subst h
    simp [oneM, eq_comm]
  · have h2 : (r < i + 1) = (r < i) := by simp; omega
    simp [h, h2]
theorem oneAt_end (r c : Nat) : EqM r c (oneAt r) oneM := by intro i j hi hj; simp [oneAt, hi]

/-- The first i rows of a matrix. -/
def topAt (i : Nat) (M : Mx) : Mx := fun r j => if r < i then M r j else 0#8
theorem topAt_start (M : Mx) : topAt 0 M = zeroM := by funext r j; simp [topAt, zeroM]
theorem topAt_step (i : Nat) (M : Mx) : putR (topAt i M) i (M i) = topAt (i + 1) M := by
  funext r j
  unfold putR topAt
  by_cases h : r = i
  · subst h; simp
  · have h2 : (r < i + 1) = (r < i) := by simp; omega
    simp [h, h2]
theorem topAt_end (r c : Nat) (M : Mx) : EqM r c (topAt r M) M := by intro i j hi hj; simp [topAt, hi]
/-- The same, and the first k of row i. -/
def cellAt (i k : Nat) (M : Mx) : Mx := fun r j => if r < i then M r j else if r = i ∧ j < k then M r j else 0#8
theorem cellAt_start (M : Mx) : cellAt 0 0 M = zeroM := by funext r j; simp [cellAt, zeroM]
theorem cellAt_step (i k : Nat) (M : Mx) : putR (cellAt i k M) i (fun j => if j = k then M i k else cellAt i k M i j) = cellAt i (k + 1) M := by
  funext r j
  unfold putR cellAt
  by_cases h : r = i
  · subst h
    by_cases h2 : j = k
    · subst h2; simp
    · have h3 : (j < k + 1) = (j < k) := by simp; omega
      simp [h2, h3]
  · simp [h]
theorem cellAt_same (i k : Nat) (M : Mx) (h : M i k = 0#8) : cellAt i k M = cellAt i (k + 1) M := by
  funext r j
  unfold cellAt
  by_cases h1 : r < i
  · simp [h1]
  · by_cases h2 : r = i
    · subst h2
      by_cases h3 : j = k
      · subst h3; simp [h]
      · have h4 : (j < k + 1) = (j < k) := by simp; omega
        simp [h4]
    · simp [h1, h2]
theorem cellAt_next (i c : Nat) (M : Mx) (r : Nat) : EqM r c (cellAt i c M) (cellAt (i + 1) 0 M) := by
  intro r j hr hj
  unfold cellAt
  by_cases h1 : r < i
  · simp [h1, Nat.lt_succ_of_lt h1]
  · by_cases h2 : r = i
    · subst h2; simp [hj]
    · have h3 : ¬ r < i + 1 := by omega
      simp [h1, h2, h3]
theorem cellAt_end (r c : Nat) (M : Mx) : EqM r c (cellAt r 0 M) M := by intro i j hi hj; simp [cellAt, hi]

/-- Row c scaled so far. -/
def scaleAt (c : Nat) (W : Mx) (u : B8) (i : Nat) : Mx := putR W c (fun j => if j < i then gm (W c j) u else W c j)
theorem scaleAt_start (c : Nat) (W : Mx) (u : B8) : scaleAt c W u 0 = W := by
  funext r j; unfold scaleAt putR
  by_cases h : r = c
  · subst h; simp
  · simp [h]
theorem scaleAt_step (c : Nat) (W : Mx) (u : B8) (i : Nat) : putR (scaleAt c W u i) c (fun j => if j = i then gm (W c i) u else scaleAt c W u i c j) = scaleAt c W u (i + 1) := by
  funext r j; unfold scaleAt putR
  by_cases h : r = c
  · subst h
    by_cases h2 : j = i
    · subst h2; simp
    · have h3 : (j < i + 1) = (j < i) := by simp; omega
      simp [h2, h3]
  · simp [h]
/-- Row c is multiplied by its inverse at c; the rows ahead of i have lost their column c. -/
def clearAt (c : Nat) (W : Mx) (i : Nat) : Mx := fun r j => if r = c then gm (W c j) (gi (W c c)) else if r < i then W r j ^^^ gm (gm (W c j) (gi (W c c))) (W r c) else W r j
theorem clearAt_start (c m : Nat) (W : Mx) (n : Nat) : EqM n m (scaleAt c W (gi (W c c)) m) (clearAt c W 0) := by
  intro r j hr hj
  unfold scaleAt putR clearAt
  by_cases h : r = c
  · subst h; simp [hj]
  · simp [h]
theorem clearAt_skip (c : Nat) (W : Mx) : clearAt c W c = clearAt c W (c + 1) := by
  funext r j; unfold clearAt
  by_cases h : r = c
  · simp [h]
  · have h3 : (r < c + 1) = (r < c) := by simp; omega
    simp [h, h3]
theorem clearAt_step (c : Nat) (W : Mx) (i : Nat) (hi : i ≠ c) : putR (clearAt c W i) i (addR (clearAt c W i i) (clearAt c W i c) (clearAt c W i i c)) = clearAt c W (i + 1) := by
  funext r j; unfold putR addR clearAt
  by_cases h : r = i
  · subst h; simp [hi]
  · have h3 : (r < i + 1) = (r < i) := by simp; omega
    simp [h, h3]
theorem clearAt_end (c : Nat) (W : Mx) (n m : Nat) : EqM n m (clearAt c W n) (clearM c W) := by
  intro r j hr hj
  unfold clearAt clearM
  by_cases h : r = c <;> simp [h, hr]
theorem EqM.mono {r c r' c' : Nat} {A B : Mx} (h : EqM r c A B) (hr : r' ≤ r) (hc : c' ≤ c) : EqM r' c' A B := fun i j hi hj => h i j (by omega) (by omega)

/-- Where the pivot is, counted from row c on; -1 where there is none. -/
def pivZ (n c : Nat) (W : Mx) : Int := match pivotM n c W with | some p => (p : Int) - (c : Int) | none => -1
theorem pivZ_at {n c j : Nat} {W : Mx} (hj : c + j < n) (hne : W (c + j) c ≠ 0#8) (h : ∀ i, i < j → W (c + i) c = 0#8) : pivotM n c W = some (c + j) ∧ pivZ n c W = (j : Int) := by
  have hp : pivotM n c W = some (c + j) := by
    unfold pivotM
    rw [List.find?_range_eq_some]
    refine ⟨by simp [hne], by simpa using hj, fun k hk => ?_⟩
    by_cases hck : c ≤ k
    · have := h (k - c) (by omega)
      rw [show c + (k - c) = k by omega] at this
      simp [this]
    · simp [hck]
  refine ⟨hp, ?_⟩
  unfold pivZ
  rw [hp]
  simp only
  omega
theorem pivZ_no {n c : Nat} {W : Mx} (h : ∀ i, c + i < n → W (c + i) c = 0#8) : pivotM n c W = none ∧ pivZ n c W = -1 := by
  have hp : pivotM n c W = none := by
    unfold pivotM
    rw [List.find?_range_eq_none]
    intro k hk
    by_cases hck : c ≤ k
    · have := h (k - c) (by omega)
      rw [show c + (k - c) = k by omega] at this
      simp [this]
    · simp [hck]
  refine ⟨hp, ?_⟩
  unfold pivZ
  rw [hp]

end Go.Proofs.YtibidlgikecelaaDoor
