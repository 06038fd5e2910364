/- Matrices in the making: what stands in a grid between the steps of a loop. Plain; no program in sight. -/
import Derived.Test.YtibidlgikecelaaDoorG3
namespace Go.Proofs.YtibidlgikecelaaDoor
set_option linter.unusedVariables false
set_option linter.unusedSimpArgs false

def zeroM : Mx := fun _ _ => 0#8
/-- A row with another row's multiple added. -/
def addR (f h : Nat → B8) (by' : B8) : Nat → B8 := fun j => f j ^^^ gm (h j) by'
/-- Row i is f. -/
def putR (M : Mx) (i : Nat) (f : Nat → B8) : Mx := fun k => if k = i then f else M k
/-- A product, its rows ahead of i done, k terms of row i. -/
def mulAt (n : Nat) (A B : Mx) (i k : Nat) : Mx := fun r j => if r < i then mulM n A B r j else if r = i then xs k (fun l => gm (B l j) (A i l)) else 0#8
theorem mulAt_start (n : Nat) (A B : Mx) : mulAt n A B 0 0 = zeroM := by
  funext r j
  unfold mulAt zeroM
  by_cases h : r = 0 <;> simp [h, xs]
theorem mulAt_step (n : Nat) (A B : Mx) (i k : Nat) : putR (mulAt n A B i k) i (addR (mulAt n A B i k i) (B k) (A i k)) = mulAt n A B i (k + 1) := by
  funext r j
  unfold putR addR mulAt
  by_cases h : r = i
  · subst h; simp [xs]
  · simp [h]
theorem mulAt_next (n : Nat) (A B : Mx) (i : Nat) : mulAt n A B i n = mulAt n A B (i + 1) 0 := by
  funext r j
  unfold mulAt
  by_cases h : r < i
  · simp [h, Nat.lt_succ_of_lt h]
  · by_cases h2 : r = i
    · subst h2
      simp only [Nat.lt_irrefl, if_false, if_true, Nat.lt_succ_self, mulM]
      exact xs_congr fun l _ => gm_comm _ _
    · have h3 : ¬ r < i + 1 := by omega
      rw [if_neg h, if_neg h2, if_neg h3]
      by_cases h4 : r = i + 1 <;> simp [h4, xs]
theorem mulAt_end (n r c : Nat) (A B : Mx) : EqM r c (mulAt n A B r 0) (mulM n A B) := by
  intro i j hi hj
  simp [mulAt, hi]

/-- Ones, down to row i. -/
def oneAt (i : Nat) : Mx := fun r j => if r < i then oneM r j else 0#8
theorem oneAt_start : oneAt 0 = zeroM := by funext r j; simp [oneAt, zeroM]
theorem oneAt_step (i : Nat) : putR (oneAt i) i (fun j => if j = i then 1#8 else oneAt i i j) = oneAt (i + 1) := by
  funext r j
  unfold putR oneAt
  by_cases h : r = i
  · subst h
    simp [oneM, eq_comm]
  · have h2 : (r < i + 1) = (r < i) := by simp; omega
    simp [h, h2]
theorem oneAt_end (r c : Nat) : EqM r c (oneAt r) oneM := by intro i j hi hj; simp [oneAt, hi]

/-- The first i rows of a matrix. -/
def topAt (i : Nat) (M : Mx) : Mx := fun r j => if r < i then M r j else 0#8
theorem topAt_start (M : Mx) : topAt 0 M = zeroM := by funext r j; simp [topAt, zeroM]
theorem topAt_step (i : Nat) (M : Mx) : putR (topAt i M) i (M i) = topAt (i + 1) M := by
  funext r j
  unfold putR topAt
  by_cases h : r = i
  · subst h; simp
  · have h2 : (r < i + 1) = (r < i) := by simp; omega
    simp [h, h2]
theorem topAt_end (r c : Nat) (M : Mx) : EqM r c (topAt r M) M := by intro i j hi hj; simp [topAt, hi]
/-- The same, and the first k of row i. -/
def cellAt (i k : Nat) (M : Mx) : Mx := fun r j => if r < i then M r j else if r = i ∧ j < k then M r j else 0#8
theorem cellAt_start (M : Mx) : cellAt 0 0 M = zeroM := by funext r j; simp [cellAt, zeroM]
theorem cellAt_step (i k : Nat) (M : Mx) : putR (cellAt i k M) i (fun j => if j = k then M i k else cellAt i k M i j) = cellAt i (k + 1) M := by
  funext r j
  unfold putR cellAt
  by_cases h : r = i
  · subst h
    by_cases h2 : j = k
    · subst h2; simp
    · have h3 : (j < k + 1) = (j < k) := by simp; omega
      simp [h2, h3]
  · simp [h]
theorem cellAt_same (i k : Nat) (M : Mx) (h : M i k = 0#8) : cellAt i k M = cellAt i (k + 1) M := by
  funext r j
  unfold cellAt
  by_cases h1 : r < i
  · simp [h1]
  · by_cases h2 : r = i
    · subst h2
      by_cases h3 : j = k
      · subst h3; simp [h]
      · have h4 : (j < k + 1) = (j < k) := by simp; omega
        simp [h4]
    · simp [h1, h2]
theorem cellAt_next (i c : Nat) (M : Mx) (r : Nat) : EqM r c (cellAt i c M) (cellAt (i + 1) 0 M) := by
  intro r j hr hj
  unfold cellAt
  by_cases h1 : r < i
  · simp [h1, Nat.lt_succ_of_lt h1]
  · by_cases h2 : r = i
    · subst h2; simp [hj]
    · have h3 : ¬ r < i + 1 := by omega
      simp [h1, h2, h3]
theorem cellAt_end (r c : Nat) (M : Mx) : EqM r c (cellAt r 0 M) M := by intro i j hi hj; simp [cellAt, hi]

/-- Row c scaled so far. -/
def scaleAt (c : Nat) (W : Mx) (u : B8) (i : Nat) : Mx := putR W c (fun j => if j < i then gm (W c j) u else W c j)
theorem scaleAt_start (c : Nat) (W : Mx) (u : B8) : scaleAt c W u 0 = W := by
  funext r j; unfold scaleAt putR
  by_cases h : r = c
  · subst h; simp
  · simp [h]
theorem scaleAt_step (c : Nat) (W : Mx) (u : B8) (i : Nat) : putR (scaleAt c W u i) c (fun j => if j = i then gm (W c i) u else scaleAt c W u i c j) = scaleAt c W u (i + 1) := by
  funext r j; unfold scaleAt putR
  by_cases h : r = c
  · subst h
    by_cases h2 : j = i
    · subst h2; simp
    · have h3 : (j < i + 1) = (j < i) := by simp; omega
      simp [h2, h3]
  · simp [h]
/-- Row c is multiplied by its inverse at c; the rows ahead of i have lost their column c. -/
def clearAt (c : Nat) (W : Mx) (i : Nat) : Mx := fun r j => if r = c then gm (W c j) (gi (W c c)) else if r < i then W r j ^^^ gm (gm (W c j) (gi (W c c))) (W r c) else W r j
theorem clearAt_start (c m : Nat) (W : Mx) (n : Nat) : EqM n m (scaleAt c W (gi (W c c)) m) (clearAt c W 0) := by
  intro r j hr hj
  unfold scaleAt putR clearAt
  by_cases h : r = c
  · subst h; simp [hj]
  · simp [h]
theorem clearAt_skip (c : Nat) (W : Mx) : clearAt c W c = clearAt c W (c + 1) := by
  funext r j; unfold clearAt
  by_cases h : r = c
  · simp [h]
  · have h3 : (r < c + 1) = (r < c) := by simp; omega
    simp [h, h3]
theorem clearAt_step (c : Nat) (W : Mx) (i : Nat) (hi : i ≠ c) : putR (clearAt c W i) i (addR (clearAt c W i i) (clearAt c W i c) (clearAt c W i i c)) = clearAt c W (i + 1) := by
  funext r j; unfold putR addR clearAt
  by_cases h : r = i
  · subst h; simp [hi]
  · have h3 : (r < i + 1) = (r < i) := by simp; omega
    simp [h, h3]
theorem clearAt_end (c : Nat) (W : Mx) (n m : Nat) : EqM n m (clearAt c W n) (clearM c W) := by
  intro r j hr hj
  unfold clearAt clearM
  by_cases h : r = c <;> simp [h, hr]
theorem EqM.mono {r c r' c' : Nat} {A B : Mx} (h : EqM r c A B) (hr : r' ≤ r) (hc : c' ≤ c) : EqM r' c' A B := fun i j hi hj => h i j (by omega) (by omega)

/-- Where the pivot is, counted from row c on; -1 where there is none. -/
def pivZ (n c : Nat) (W : Mx) : Int := match pivotM n c W with | some p => (p : Int) - (c : Int) | none => -1
theorem pivZ_at {n c j : Nat} {W : Mx} (hj : c + j < n) (hne : W (c + j) c ≠ 0#8) (h : ∀ i, i < j → W (c + i) c = 0#8) : pivotM n c W = some (c + j) ∧ pivZ n c W = (j : Int) := by
  have hp : pivotM n c W = some (c + j) := by
    unfold pivotM
    rw [List.find?_range_eq_some]
    refine ⟨by simp [hne], by simpa using hj, fun k hk => ?_⟩
    by_cases hck : c ≤ k
    · have := h (k - c) (by omega)
      rw [show c + (k - c) = k by omega] at this
      simp [this]
    · simp [hck]
  refine ⟨hp, ?_⟩
  unfold pivZ
  rw [hp]
  simp only
  omega
theorem pivZ_no {n c : Nat} {W : Mx} (h : ∀ i, c + i < n → W (c + i) c = 0#8) : pivotM n c W = none ∧ pivZ n c W = -1 := by
  have hp : pivotM n c W = none := by
    unfold pivotM
    rw [List.find?_range_eq_none]
    intro k hk
    by_cases hck : c ≤ k
    · have := h (k - c) (by omega)
      rw [show c + (k - c) = k by omega] at this
      simp [this]
    · simp [hck]
  refine ⟨hp, ?_⟩
  unfold pivZ
  rw [hp]

end Go.Proofs.YtibidlgikecelaaDoor
