/- Matrices over the field of 256 numbers: products, ones, elimination. Plain; no program in sight. -/
import Derived.Test.YtibidlgikecelaaDoorG1
namespace Go.Proofs.YtibidlgikecelaaDoor
set_option linter.unusedVariables false
set_option linter.unusedSimpArgs false

/-- The sum of f 0 .. f (n - 1). -/
def xs : Nat → (Nat → B8) → B8
  | 0, _ => 0#8
  | n + 1, f => xs n f ^^^ f n
theorem xs_congr {n : Nat} {f g : Nat → B8} (h : ∀ i, i < n → f i = g i) : xs n f = xs n g := by
  induction n with
  | zero => rfl
  | succ n ih => rw [xs, xs, ih (fun i hi => h i (by omega)), h n (by omega)]
theorem xs_add (n : Nat) (f g : Nat → B8) : xs n (fun i => f i ^^^ g i) = xs n f ^^^ xs n g := by
  induction n with
  | zero => simp [xs]
  | succ n ih => simp only [xs, ih]; ac_rfl
theorem xs_zero (n : Nat) : xs n (fun _ => 0#8) = 0#8 := by
  induction n with
  | zero => rfl
  | succ n ih => rw [xs, ih]; rfl
theorem xs_nil {n : Nat} {f : Nat → B8} (h : ∀ i, i < n → f i = 0#8) : xs n f = 0#8 := by
  rw [xs_congr h, xs_zero]
theorem gm_xs (a : B8) (n : Nat) (f : Nat → B8) : gm a (xs n f) = xs n (fun i => gm a (f i)) := by
  induction n with
  | zero => exact gm_zero a
  | succ n ih => simp only [xs, gm_add_right, ih]
theorem xs_gm (n : Nat) (f : Nat → B8) (a : B8) : gm (xs n f) a = xs n (fun i => gm (f i) a) := by
  rw [gm_comm, gm_xs]; exact xs_congr fun i _ => gm_comm _ _
theorem xs_swap (n m : Nat) (F : Nat → Nat → B8) : xs n (fun i => xs m (fun j => F i j)) = xs m (fun j => xs n (fun i => F i j)) := by
  induction n with
  | zero => exact (xs_zero m).symm
  | succ n ih => simp only [xs, ih, xs_add]
theorem xs_single {n k : Nat} (f : Nat → B8) (hk : k < n) (h : ∀ i, i < n → i ≠ k → f i = 0#8) : xs n f = f k := by
  induction n with
  | zero => omega
  | succ n ih =>
    rw [xs]
    by_cases e : k = n
    · subst e
      rw [xs_nil fun i hi => h i (by omega) (by omega)]
      simp
    · rw [ih (by omega) fun i hi => h i (by omega), h n (by omega) (fun e' => e e'.symm)]
      simp

abbrev Mx := Nat → Nat → B8
def mulM (n : Nat) (A B : Mx) : Mx := fun i j => xs n fun k => gm (A i k) (B k j)
def oneM : Mx := fun i j => if i = j then 1#8 else 0#8
/-- Equal in r rows and c columns. -/
def EqM (r c : Nat) (A B : Mx) : Prop := ∀ i j, i < r → j < c → A i j = B i j
theorem EqM.refl (r c : Nat) (A : Mx) : EqM r c A A := fun _ _ _ _ => rfl
theorem EqM.symm {r c : Nat} {A B : Mx} (h : EqM r c A B) : EqM r c B A := fun i j hi hj => (h i j hi hj).symm
theorem EqM.trans {r c : Nat} {A B C : Mx} (h : EqM r c A B) (k : EqM r c B C) : EqM r c A C := fun i j hi hj => (h i j hi hj).trans (k i j hi hj)
theorem mulM_congr {r n c : Nat} {A A' B B' : Mx} (h : EqM r n A A') (k : EqM n c B B') : EqM r c (mulM n A B) (mulM n A' B') := by
  intro i j hi hj
  exact xs_congr fun l hl => by rw [h i l hi hl, k l j hl hj]
theorem mulM_assoc (n m : Nat) (A B C : Mx) (i j : Nat) : mulM m (mulM n A B) C i j = mulM n A (mulM m B C) i j := by
  unfold mulM
  simp only [xs_gm, gm_xs]
  rw [xs_swap]
  exact xs_congr fun k _ => xs_congr fun l _ => gm_assoc _ _ _
theorem mulM_one {n : Nat} (A : Mx) {i j : Nat} (hj : j < n) : mulM n A oneM i j = A i j := by
  unfold mulM
  rw [xs_single _ hj]
  · simp [oneM, gm_one]
  · intro k hk hne
    simp [oneM, hne, gm_zero]
theorem one_mulM {n : Nat} (A : Mx) {i j : Nat} (hi : i < n) : mulM n oneM A i j = A i j := by
  unfold mulM
  rw [xs_single _ hi]
  · simp [oneM, one_gm]
  · intro k hk hne
    simp [oneM, Ne.symm hne, zero_gm]

/-! ### Elimination -/
/-- Rows c and d change places. -/
def swapM (c d : Nat) (W : Mx) : Mx := fun r => if r = c then W d else if r = d then W c else W r
/-- Row c is multiplied by its inverse at c; all other rows lose their column c. -/
def clearM (c : Nat) (W : Mx) : Mx := fun r j => if r = c then gm (W c j) (gi (W c c)) else W r j ^^^ gm (gm (W c j) (gi (W c c))) (W r c)
/-- The first row from c on with something at column c. -/
def pivotM (n c : Nat) (W : Mx) : Option Nat := (List.range n).find? fun p => decide (c ≤ p) && decide (W p c ≠ 0#8)
def stepM (n c : Nat) (W : Mx) : Option Mx := (pivotM n c W).map fun p => clearM c (swapM c p W)
/-- The steps from column c on, k of them. -/
def elimM (n : Nat) : Nat → Nat → Mx → Option Mx
  | 0, _, W => some W
  | k + 1, c, W => (stepM n c W).bind fun V => elimM n k (c + 1) V
/-- The matrix, and ones beside it. -/
def sideM (n : Nat) (A : Mx) : Mx := fun i j => if j < n then A i j else if j = n + i then 1#8 else 0#8
def invM (n : Nat) (A : Mx) : Option Mx := (elimM n n 0 (sideM n A)).map fun W => fun i j => W i (n + j)

/-- F times E is one, and E times F. -/
structure Inv2 (n : Nat) (E F : Mx) : Prop where
  l : EqM n n (mulM n F E) oneM
  r : EqM n n (mulM n E F) oneM

/-- A change of rows: what it does is a product. -/
structure RowOp (n : Nat) (T : Mx → Mx) (E F : Mx) : Prop where
  does : ∀ W i j, i < n → T W i j = mulM n E W i j
  inv : Inv2 n E F

theorem Inv2.mul {n : Nat} {E F E' F' : Mx} (h : Inv2 n E F) (k : Inv2 n E' F') : Inv2 n (mulM n E' E) (mulM n F F') := by
  constructor
  · intro i j hi hj
    rw [mulM_assoc]
    have : EqM n n (mulM n F' (mulM n E' E)) E := fun a b ha hb => by
      rw [← mulM_assoc, mulM_congr k.l (EqM.refl n n E) a b ha hb, one_mulM _ ha]
    rw [mulM_congr (EqM.refl n n F) this i j hi hj]
    exact h.l i j hi hj
  · intro i j hi hj
    rw [mulM_assoc]
    have : EqM n n (mulM n E (mulM n F F')) F' := fun a b ha hb => by
      rw [← mulM_assoc, mulM_congr h.r (EqM.refl n n F') a b ha hb, one_mulM _ ha]
    rw [mulM_congr (EqM.refl n n E') this i j hi hj]
    exact k.r i j hi hj

theorem one_inv2 (n : Nat) : Inv2 n oneM oneM := ⟨fun i j hi hj => one_mulM _ hi, fun i j hi hj => one_mulM _ hi⟩

theorem swap_op {n c d : Nat} (hc : c < n) (hd : d < n) : RowOp n (swapM c d) (swapM c d oneM) (swapM c d oneM) := by
  have does : ∀ W i j, i < n → swapM c d W i j = mulM n (swapM c d oneM) W i j := by
    intro W i j hi
    have key : ∀ k, k < n → mulM n (fun _ => oneM k) W i j = W k j := fun k hk => one_mulM (i := k) W hk
    unfold swapM
    by_cases h1 : i = c
    · subst h1
      rw [if_pos rfl]
      have := key d hd
      rw [← this]
      unfold mulM
      simp
    · by_cases h2 : i = d
      · subst h2
        rw [if_neg h1, if_pos rfl]
        have := key c hc
        rw [← this]
        unfold mulM
        simp [h1]
      · rw [if_neg h1, if_neg h2]
        have := key i hi
        rw [← this]
        unfold mulM
        simp [h1, h2]
  refine ⟨does, ?_⟩
  have : EqM n n (mulM n (swapM c d oneM) (swapM c d oneM)) oneM := by
    intro i j hi hj
    rw [← does _ i j hi]
    unfold swapM
    by_cases h1 : i = c
    · subst h1
      by_cases h2 : d = i
      · subst h2; simp
      · simp [h2]
    · by_cases h2 : i = d
      · subst h2
        simp [h1]
      · simp [h1, h2]
  exact ⟨this, this⟩

/-- clearM as a product: u what row c is multiplied by, the rest what is added. -/
def clE (n c : Nat) (u : B8) (v : Nat → B8) : Mx := fun r j => if r = c then (if j = c then u else 0#8) else (if j = r then 1#8 else if j = c then gm u (v r) else 0#8)
def clF (n c : Nat) (u : B8) (v : Nat → B8) : Mx := fun r j => if r = c then (if j = c then gi u else 0#8) else (if j = r then 1#8 else if j = c then v r else 0#8)

theorem xs_two {n a b : Nat} (f : Nat → B8) (ha : a < n) (hb : b < n) (hab : a ≠ b) (h : ∀ i, i < n → i ≠ a → i ≠ b → f i = 0#8) : xs n f = f a ^^^ f b := by
  have e : xs n f = xs n (fun i => (if i = a then f i else 0#8) ^^^ (if i = a then 0#8 else f i)) := xs_congr fun i _ => by split <;> simp
  rw [e, xs_add, xs_single _ ha (fun i _ hne => by simp [hne]), xs_single (fun i => if i = a then 0#8 else f i) hb (fun i hi hne => by
    show (if i = a then 0#8 else f i) = 0#8
    split
    · rfl
    · exact h i hi (by assumption) hne)]
  simp [Ne.symm hab]

theorem clE_mul {n c : Nat} (u : B8) (v : Nat → B8) (W : Mx) {i j : Nat} (hc : c < n) (hi : i < n) :
    mulM n (clE n c u v) W i j = if i = c then gm u (W c j) else W i j ^^^ gm (gm u (v i)) (W c j) := by
  unfold mulM
  by_cases h : i = c
  · subst h
    rw [if_pos rfl, xs_single _ hi]
    · simp [clE]
    · intro k _ hk
      simp [clE, hk, zero_gm]
  · rw [if_neg h, xs_two _ hi hc h]
    · simp [clE, h, one_gm, Ne.symm h]
    · intro k _ h1 h2
      simp [clE, h, h1, h2, zero_gm]

theorem clF_mul {n c : Nat} (u : B8) (v : Nat → B8) (W : Mx) {i j : Nat} (hc : c < n) (hi : i < n) :
    mulM n (clF n c u v) W i j = if i = c then gm (gi u) (W c j) else W i j ^^^ gm (v i) (W c j) := by
  unfold mulM
  by_cases h : i = c
  · subst h
    rw [if_pos rfl, xs_single _ hi]
    · simp [clF]
    · intro k _ hk
      simp [clF, hk, zero_gm]
  · rw [if_neg h, xs_two _ hi hc h]
    · simp [clF, h, one_gm, Ne.symm h]
    · intro k _ h1 h2
      simp [clF, h, h1, h2, zero_gm]

theorem cl_inv2 {n c : Nat} {u : B8} (hu : u ≠ 0#8) (v : Nat → B8) (hc : c < n) : Inv2 n (clE n c u v) (clF n c u v) := by
  constructor
  · intro i j hi hj
    rw [clF_mul _ _ _ hc hi]
    by_cases h : i = c
    · subst h
      rw [if_pos rfl]
      by_cases hj' : j = i
      · subst hj'; simp [clE, oneM, gi_gm u hu]
      · simp [clE, oneM, hj', gm_zero, Ne.symm hj']
    · rw [if_neg h]
      by_cases h1 : j = i
      · subst h1; simp [clE, h, oneM, gm_zero]
      · by_cases h2 : j = c
        · subst h2
          simp [clE, h, oneM, Ne.symm h]
          rw [gm_comm u (v i)]
        · simp [clE, h, h1, h2, oneM, gm_zero, Ne.symm h1]
  · intro i j hi hj
    rw [clE_mul _ _ _ hc hi]
    by_cases h : i = c
    · subst h
      rw [if_pos rfl]
      by_cases hj' : j = i
      · subst hj'; simp [clF, oneM, gm_gi u hu]
      · simp [clF, oneM, hj', gm_zero, Ne.symm hj']
    · rw [if_neg h]
      by_cases h1 : j = i
      · subst h1; simp [clF, h, oneM, gm_zero]
      · by_cases h2 : j = c
        · subst h2
          simp [clF, h, oneM, Ne.symm h]
          rw [gm_comm u (v i), gm_assoc, gm_gi u hu, gm_one]
        · simp [clF, h, h1, h2, oneM, gm_zero, Ne.symm h1]

theorem clear_does {n c : Nat} (W V : Mx) (hc : c < n) {i j : Nat} (hi : i < n) (hV : ∀ i, i < n → V i c = W i c) :
    (if i = c then gm (V c j) (gi (W c c)) else V i j ^^^ gm (gm (V c j) (gi (W c c))) (W i c)) = mulM n (clE n c (gi (W c c)) (fun r => W r c)) V i j := by
  rw [clE_mul _ _ _ hc hi]
  by_cases h : i = c
  · rw [if_pos h, if_pos h, gm_comm]
  · rw [if_neg h, if_neg h]
    congr 1
    rw [gm_comm (V c j), gm_assoc, gm_assoc, gm_comm (V c j)]

theorem pivot_some {n c p : Nat} {W : Mx} (h : pivotM n c W = some p) : c ≤ p ∧ p < n ∧ W p c ≠ 0#8 := by
  unfold pivotM at h
  have h1 := List.find?_some h
  have h2 := List.mem_of_find?_eq_some h
  simp at h1 h2
  exact ⟨h1.1, h2, h1.2⟩
theorem pivot_none {n c : Nat} {W : Mx} (h : pivotM n c W = none) : ∀ p, c ≤ p → p < n → W p c = 0#8 := by
  unfold pivotM at h
  rw [List.find?_eq_none] at h
  intro p h1 h2
  have := h p (List.mem_range.2 h2)
  simpa [h1] using this

/-- W is S by a change of rows that can be taken back, and has ones in its first c columns. -/
structure Gone (n c : Nat) (S W : Mx) : Prop where
  by' : ∃ E F, Inv2 n E F ∧ ∀ i j, i < n → W i j = mulM n E S i j
  ones : ∀ i j, i < n → j < c → W i j = oneM i j

theorem Gone.start (n : Nat) (S : Mx) : Gone n 0 S S :=
  ⟨⟨oneM, oneM, one_inv2 n, fun i j hi => (one_mulM S hi).symm⟩, fun i j _ hj => by omega⟩

theorem Gone.op {n : Nat} {S W V E F : Mx} (h : ∃ E F, Inv2 n E F ∧ ∀ i j, i < n → W i j = mulM n E S i j) (k : Inv2 n E F) (hV : ∀ i j, i < n → V i j = mulM n E W i j) :
    ∃ E F, Inv2 n E F ∧ ∀ i j, i < n → V i j = mulM n E S i j := by
  obtain ⟨E', F', h1, h2⟩ := h
  refine ⟨_, _, h1.mul k, fun i j hi => ?_⟩
  rw [hV i j hi, mulM_assoc]
  exact xs_congr fun l hl => by rw [h2 l j hl]

theorem Gone.step {n c : Nat} {S W V : Mx} (h : Gone n c S W) (hc : c < n) (hs : stepM n c W = some V) : Gone n (c + 1) S V := by
  unfold stepM at hs
  obtain ⟨p, hp, rfl⟩ := Option.map_eq_some_iff.1 hs
  obtain ⟨h1, h2, h3⟩ := pivot_some hp
  have hsw := swap_op hc h2
  have hb1 := Gone.op h.by' hsw.inv (hsw.does W)
  have hones : ∀ i j, i < n → j < c → swapM c p W i j = oneM i j := by
    intro i j hi hj
    unfold swapM
    by_cases e1 : i = c
    · subst e1
      rw [if_pos rfl, h.ones p j h2 hj]
      unfold oneM
      rw [if_neg (by omega), if_neg (by omega)]
    · rw [if_neg e1]
      by_cases e2 : i = p
      · subst e2
        rw [if_pos rfl, h.ones c j hc hj]
        unfold oneM
        rw [if_neg (by omega), if_neg (by omega)]
      · rw [if_neg e2]; exact h.ones i j hi hj
  have hcc : swapM c p W c c = W p c := by simp [swapM]
  generalize hV : swapM c p W = V at *
  have hne : V c c ≠ 0#8 := by rw [hcc]; exact h3
  refine ⟨Gone.op hb1 (cl_inv2 (gi_ne hne) (fun r => V r c) hc) (fun i j hi => clear_does V V hc hi fun _ _ => rfl), ?_⟩
  intro i j hi hj
  unfold clearM
  by_cases e : j < c
  · have hz : V c j = 0#8 := by rw [hones c j hc e]; unfold oneM; rw [if_neg (by omega)]
    by_cases e1 : i = c
    · subst e1
      rw [if_pos rfl, hz, zero_gm]
      unfold oneM; rw [if_neg (by omega)]
    · rw [if_neg e1, hz, zero_gm, zero_gm, hones i j hi e]
      simp
  · obtain rfl : j = c := by omega
    by_cases e1 : i = j
    · subst e1
      rw [if_pos rfl, gm_gi _ hne]
      simp [oneM]
    · rw [if_neg e1, gm_gi _ hne, one_gm]
      simp [oneM, e1]

theorem Gone.elim {n : Nat} {S : Mx} : ∀ (k c : Nat) (W V : Mx), Gone n c S W → c + k = n → elimM n k c W = some V → Gone n n S V
  | 0, c, W, V, h, hc, he => by
    cases he
    obtain rfl : c = n := by omega
    exact h
  | k + 1, c, W, V, h, hc, he => by
    unfold elimM at he
    obtain ⟨U, h1, h2⟩ := Option.bind_eq_some_iff.1 he
    exact Gone.elim k (c + 1) U V (h.step (by omega) h1) (by omega) h2
theorem Gone.stuck {n : Nat} {S : Mx} : ∀ (k c : Nat) (W : Mx), Gone n c S W → c + k = n → elimM n k c W = none → ∃ d U, d < n ∧ Gone n d S U ∧ pivotM n d U = none
  | 0, c, W, h, hc, he => by cases he
  | k + 1, c, W, h, hc, he => by
    unfold elimM at he
    cases hs : stepM n c W with
    | none =>
      refine ⟨c, W, by omega, h, ?_⟩
      unfold stepM at hs
      simpa using hs
    | some V =>
      rw [hs] at he
      exact Gone.stuck k (c + 1) V (h.step (by omega) hs) (by omega) he

/-- An inverse is one from both sides. -/
theorem inv_some {n : Nat} {A R : Mx} (h : invM n A = some R) : Inv2 n A R := by
  unfold invM at h
  obtain ⟨W, hW, rfl⟩ := Option.map_eq_some_iff.1 h
  have g := Gone.elim n 0 _ W (Gone.start n _) (by omega) hW
  obtain ⟨E, F, hEF, hE⟩ := g.by'
  have hR : EqM n n (fun i j => W i (n + j)) E := by
    intro i j hi hj
    show W i (n + j) = E i j
    rw [hE i (n + j) hi]
    unfold mulM
    rw [xs_single _ hj]
    · unfold sideM
      rw [if_neg (by omega), if_pos rfl, gm_one]
    · intro k hk hne
      unfold sideM
      rw [if_neg (by omega), if_neg (by omega), gm_zero]
  have hEA : EqM n n (mulM n E A) oneM := by
    intro i j hi hj
    rw [← g.ones i j hi hj, hE i j hi]
    exact xs_congr fun k hk => by unfold sideM; rw [if_pos hj]
  have hAF : EqM n n A F := by
    intro i j hi hj
    rw [← mulM_one F hj, ← mulM_congr (EqM.refl n n F) hEA i j hi hj, ← mulM_assoc, mulM_congr hEF.l (EqM.refl n n A) i j hi hj, one_mulM _ hi]
  constructor
  · exact (mulM_congr hR (EqM.refl n n A)).trans hEA
  · exact (mulM_congr hAF hR).trans hEF.l

/-- What has none takes something to nought. -/
theorem inv_none {n : Nat} {A : Mx} (h : invM n A = none) : ∃ v : Nat → B8, (∃ j, j < n ∧ v j ≠ 0#8) ∧ ∀ i, i < n → xs n (fun j => gm (A i j) (v j)) = 0#8 := by
  unfold invM at h
  have h' : elimM n n 0 (sideM n A) = none := by simpa using h
  obtain ⟨d, U, hd, g, hp⟩ := Gone.stuck n 0 _ (Gone.start n _) (by omega) h'
  have hz := pivot_none hp
  obtain ⟨E, F, hEF, hE⟩ := g.by'
  refine ⟨fun j => if j < d then U j d else if j = d then 1#8 else 0#8, ⟨d, hd, by simp⟩, ?_⟩
  have hU' : ∃ v : Nat → B8, v = (fun j => if j < d then U j d else if j = d then 1#8 else 0#8) := ⟨_, rfl⟩
  have hU : ∀ i, i < n → xs n (fun j => gm (U i j) (if j < d then U j d else if j = d then 1#8 else 0#8)) = 0#8 := by
    intro i hi
    by_cases e : i < d
    · rw [xs_two (a := i) (b := d) _ hi hd (by omega)]
      · simp [e, g.ones i i hi e, oneM, one_gm, gm_one]
      · intro j hj h1 h2
        by_cases e2 : j < d
        · rw [g.ones i j hi e2]
          simp [oneM, Ne.symm h1, zero_gm]
        · simp [e2, h2, gm_zero]
    · rw [xs_nil]
      intro j hj
      by_cases e2 : j < d
      · rw [g.ones i j hi e2]
        unfold oneM
        rw [if_neg (by omega), zero_gm]
      · by_cases e3 : j = d
        · subst e3
          rw [hz i (by omega) hi, zero_gm]
        · simp [e2, e3, gm_zero]
  obtain ⟨v, hv⟩ := hU'
  replace hU : ∀ i, i < n → xs n (fun j => gm (U i j) (v j)) = 0#8 := by rw [hv]; exact hU
  rw [← hv]
  clear hv
  intro i hi
  -- A v = F (E A v)
  have hEA : ∀ i j, i < n → j < n → U i j = mulM n E A i j := by
    intro i j hi hj
    rw [hE i j hi]
    exact xs_congr fun k hk => by unfold sideM; rw [if_pos hj]
  have hA : ∀ j, j < n → A i j = mulM n F U i j := by
    intro j hj
    have : mulM n F U i j = mulM n F (mulM n E A) i j := xs_congr fun k hk => by rw [hEA k j hk hj]
    rw [this, ← mulM_assoc, mulM_congr hEF.l (EqM.refl n n A) i j hi hj, one_mulM _ hi]
  have e1 : xs n (fun j => gm (A i j) (v j)) = xs n (fun j => xs n (fun k => gm (F i k) (gm (U k j) (v j)))) := xs_congr fun j hj => by
    rw [hA j hj]
    unfold mulM
    rw [xs_gm]
    exact xs_congr fun k _ => gm_assoc _ _ _
  rw [e1, xs_swap]
  refine xs_nil fun k hk => ?_
  rw [← gm_xs, hU k hk, gm_zero]

/-- What has a left inverse takes nothing but nought to nought. -/
theorem no_kernel {n : Nat} {A B : Mx} (h : EqM n n (mulM n B A) oneM) {v : Nat → B8} (hv : ∀ i, i < n → xs n (fun j => gm (A i j) (v j)) = 0#8) : ∀ j, j < n → v j = 0#8 := by
  intro j hj
  have e : v j = xs n (fun k => gm (oneM j k) (v k)) := by
    rw [xs_single _ hj]
    · simp [oneM, one_gm]
    · intro i _ hne
      simp [oneM, Ne.symm hne, zero_gm]
  rw [e]
  have e2 : xs n (fun k => gm (oneM j k) (v k)) = xs n (fun k => xs n (fun l => gm (B j l) (gm (A l k) (v k)))) := xs_congr fun k hk => by
    rw [← h j k hj hk]
    unfold mulM
    rw [xs_gm]
    exact xs_congr fun l _ => gm_assoc _ _ _
  rw [e2, xs_swap]
  refine xs_nil fun l hl => ?_
  rw [← gm_xs, hv l hl, gm_zero]

theorem inv_of_left {n : Nat} {A B : Mx} (h : EqM n n (mulM n B A) oneM) : ∃ R, invM n A = some R ∧ EqM n n R B := by
  cases hi : invM n A with
  | none =>
    obtain ⟨v, ⟨j, hj, hne⟩, hv⟩ := inv_none hi
    exact absurd (no_kernel h hv j hj) hne
  | some R =>
    refine ⟨R, rfl, ?_⟩
    have g := inv_some hi
    intro i j hi hj
    rw [← one_mulM R hi, ← mulM_congr h (EqM.refl n n R) i j hi hj, mulM_assoc, mulM_congr (EqM.refl n n B) g.r i j hi hj, mulM_one _ hj]

/-- A matrix with a row twice has none. -/
theorem inv_twice {n : Nat} {A : Mx} {a b : Nat} (ha : a < n) (hb : b < n) (hab : a ≠ b) (h : ∀ j, j < n → A a j = A b j) : invM n A = none := by
  cases hi : invM n A with
  | none => rfl
  | some R =>
    have g := inv_some hi
    have h1 := g.r a a ha ha
    have h2 := g.r b a hb ha
    have h3 : mulM n A R a a = mulM n A R b a := xs_congr fun k hk => by rw [h k hk]
    rw [h1, h2] at h3
    simp [oneM, Ne.symm hab] at h3

end Go.Proofs.YtibidlgikecelaaDoor
