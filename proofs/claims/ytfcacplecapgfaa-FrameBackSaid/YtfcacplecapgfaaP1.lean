/- Numbers in bytes, the highest first, no nought ahead. Plain; no program in sight. -/
import Derived.Test.YtfcacplecapgfaaV
namespace Go.Proofs.Ytfcacplecapgfaa
set_option linter.unusedVariables false
set_option linter.unusedSimpArgs false

/-- A number's bytes, the lowest first. -/
def leB (n : Nat) : List B8 := if h : n = 0 then [] else BitVec.ofNat 8 n :: leB (n / 256)
termination_by n
decreasing_by omega
theorem leB_zero : leB 0 = [] := by rw [leB]; simp
theorem leB_pos {n : Nat} (h : n ≠ 0) : leB n = BitVec.ofNat 8 n :: leB (n / 256) := by rw [leB]; simp [h]
/-- The number of bytes, the lowest first. -/
def valL : List B8 → Nat
  | [] => 0
  | x :: l => x.toNat + 256 * valL l
theorem valL_leB (n : Nat) : valL (leB n) = n := by
  induction n using Nat.strongRecOn with
  | _ n ih =>
    by_cases h : n = 0
    · subst h; rw [leB_zero]; rfl
    · rw [leB_pos h, valL, ih (n / 256) (by omega), BitVec.toNat_ofNat]; omega
/-- The highest byte is not nought. -/
def topped (l : List B8) : Prop := l.getLast? ≠ some 0#8
theorem leB_topped (n : Nat) : topped (leB n) := by
  induction n using Nat.strongRecOn with
  | _ n ih =>
    by_cases h : n = 0
    · subst h; rw [leB_zero]; simp [topped]
    · rw [leB_pos h]
      by_cases h2 : n / 256 = 0
      · rw [h2, leB_zero]
        simp only [topped, List.getLast?_singleton, ne_eq, Option.some.injEq]
        intro he
        have := congrArg BitVec.toNat he
        simp at this
        omega
      · have h3 := ih (n / 256) (by omega)
        unfold topped at h3 ⊢
        rw [leB_pos h2] at h3 ⊢
        simpa using h3
theorem valL_zero {l : List B8} (h : topped l) (hv : valL l = 0) : l = [] := by
  induction l with
  | nil => rfl
  | cons x l ih =>
    simp only [valL] at hv
    have hx : x.toNat = 0 := by omega
    have hl : valL l = 0 := by omega
    cases l with
    | nil =>
      exfalso
      apply h
      have : x = 0#8 := BitVec.eq_of_toNat_eq (by simpa using hx)
      simp [this]
    | cons y l =>
      have := ih (by unfold topped at h ⊢; simpa using h) hl
      cases this
theorem leB_valL {l : List B8} (h : topped l) : leB (valL l) = l := by
  induction l with
  | nil => simp [valL, leB_zero]
  | cons x l ih =>
    have hl : topped l ∨ l = [] := by
      cases l with
      | nil => exact .inr rfl
      | cons y l => left; unfold topped at h ⊢; simpa using h
    have hn : valL (x :: l) ≠ 0 := by
      intro h0
      have := valL_zero h h0
      cases this
    have hx := x.isLt
    rw [leB_pos hn]
    have h1 : BitVec.ofNat 8 (valL (x :: l)) = x := by
      apply BitVec.eq_of_toNat_eq
      rw [BitVec.toNat_ofNat]
      simp only [valL]
      omega
    have h2 : valL (x :: l) / 256 = valL l := by simp only [valL]; omega
    rw [h1, h2]
    rcases hl with hl | hl
    · rw [ih hl]
    · subst hl; simp [valL, leB_zero]
theorem leB_len {n k : Nat} (h : n < 256 ^ k) : (leB n).length ≤ k := by
  induction k generalizing n with
  | zero =>
    have : n = 0 := by simpa using h
    subst this; rw [leB_zero]; simp
  | succ k ih =>
    by_cases h0 : n = 0
    · subst h0; rw [leB_zero]; simp
    · rw [leB_pos h0, List.length_cons]
      have := ih (n := n / 256) (by rw [Nat.pow_succ] at h; omega)
      omega
theorem leB_len8 {n : Nat} (h : n < 18446744073709551616) : (leB n).length ≤ 8 := leB_len (k := 8) h
/-- A number's bytes: how many, and these, the highest first. -/
def numB (n : Nat) : List B8 := BitVec.ofNat 8 (leB n).length :: (leB n).reverse
/-- A number's bytes at the beginning: the number, at most so great, and what stands behind. -/
def numR (most : Nat) : List B8 → Option (Nat × List B8)
  | [] => none
  | w :: l => if 8 < w.toNat ∨ l.length < w.toNat then none
    else if (l.take w.toNat)[0]? = some 0#8 then none
    else if most < valL (l.take w.toNat).reverse then none
    else some (valL (l.take w.toNat).reverse, l.drop w.toNat)
theorem topped_rev {l : List B8} : topped l.reverse ↔ l[0]? ≠ some 0#8 := by
  unfold topped
  rw [List.getLast?_reverse]
  cases l <;> simp
theorem numR_numB {most n : Nat} (h : n ≤ most) (h8 : n < 18446744073709551616) (rest : List B8) : numR most (numB n ++ rest) = some (n, rest) := by
  have hl := leB_len8 h8
  have hw : (BitVec.ofNat 8 (leB n).length).toNat = (leB n).length := by
    rw [BitVec.toNat_ofNat]; omega
  unfold numB numR
  simp only [List.cons_append, hw]
  rw [if_neg (by simp; omega)]
  have ht : (((leB n).reverse ++ rest).take (leB n).length) = (leB n).reverse := by
    have := List.take_left (l₁ := (leB n).reverse) (l₂ := rest)
    rwa [List.length_reverse] at this
  have hd : (((leB n).reverse ++ rest).drop (leB n).length) = rest := by
    have := List.drop_left (l₁ := (leB n).reverse) (l₂ := rest)
    rwa [List.length_reverse] at this
  rw [ht, hd, List.reverse_reverse, valL_leB]
  rw [if_neg, if_neg (by omega)]
  have := leB_topped n
  rw [← List.reverse_reverse (leB n), topped_rev] at this
  exact this
theorem numR_some {most n : Nat} {l r : List B8} (h : numR most l = some (n, r)) : l = numB n ++ r ∧ n ≤ most ∧ n < 18446744073709551616 := by
  cases l with
  | nil => cases h
  | cons w l =>
    simp only [numR] at h
    split at h
    · cases h
    rename_i h1
    split at h
    · cases h
    rename_i h2
    split at h
    · cases h
    rename_i h3
    simp only [Option.some.injEq, Prod.mk.injEq] at h
    obtain ⟨hn, hr⟩ := h
    have ht := topped_rev.2 h2
    have hle : leB n = (l.take w.toNat).reverse := by rw [← hn, leB_valL ht]
    have hlen : (leB n).length = w.toNat := by rw [hle]; simp; omega
    refine ⟨?_, by omega, ?_⟩
    · unfold numB
      rw [hlen, hle, List.reverse_reverse, ← hr, List.cons_append, List.take_append_drop]
      congr 1
      exact BitVec.eq_of_toNat_eq (by rw [BitVec.toNat_ofNat]; omega)
    · have hb : ∀ l : List B8, valL l < 256 ^ l.length := by
        intro l
        induction l with
        | nil => simp [valL]
        | cons x l ih =>
          have := x.isLt
          simp only [valL, List.length_cons, Nat.pow_succ]
          omega
      have := hb (leB n)
      rw [valL_leB, hlen] at this
      exact Nat.lt_of_lt_of_le this (Nat.pow_le_pow_right (by decide) (by omega : w.toNat ≤ 8))
/-- The value, byte by byte from the highest. -/
theorem valL_rev (l : List B8) : valL l.reverse = l.foldl (fun n x => n * 256 + x.toNat) 0 := by
  have : ∀ (l : List B8) (a : Nat), l.foldl (fun n x => n * 256 + x.toNat) a = a * 256 ^ l.length + valL l.reverse := by
    intro l
    induction l with
    | nil => intro a; simp [valL]
    | cons x l ih =>
      intro a
      rw [List.foldl_cons, ih]
      have hv : ∀ (m : List B8) (y : B8), valL (m ++ [y]) = valL m + 256 ^ m.length * y.toNat := by
        intro m y
        induction m with
        | nil => simp [valL]
        | cons z m ihm => simp only [List.cons_append, valL, ihm, List.length_cons, Nat.pow_succ]; rw [Nat.mul_add, ← Nat.mul_assoc, Nat.mul_comm 256 (256 ^ m.length), Nat.add_assoc]
      rw [List.reverse_cons, hv, List.length_reverse, List.length_cons, Nat.pow_succ, Nat.add_mul]
      have e1 : a * 256 * 256 ^ l.length = a * (256 ^ l.length * 256) := by rw [Nat.mul_assoc, Nat.mul_comm 256]
      rw [e1, Nat.mul_comm x.toNat]
      omega
  rw [this]; omega

end Go.Proofs.Ytfcacplecapgfaa
