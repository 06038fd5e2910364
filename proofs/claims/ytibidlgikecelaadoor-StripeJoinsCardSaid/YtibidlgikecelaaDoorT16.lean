/- Words: rows of one's own that grow by columns, in a slice of heads. -/
import Derived.Test.YtibidlgikecelaaDoorT15
namespace Go.Proofs.YtibidlgikecelaaDoor
open Go.RowKit
set_option linter.unusedVariables false
set_option linter.unusedSimpArgs false

/-- Rows in the making: those above k have one column more. -/
def colL (N k i : Nat) (Q : Mx) : List (List B8) := (List.range N).map fun t => if t < k then rowL (i + 1) (Q t) else rowL i (Q t)
@[simp] theorem length_colL (N k i : Nat) (Q : Mx) : (colL N k i Q).length = N := by simp [colL]
theorem colL_get {N k i t : Nat} {Q : Mx} (h : t < N) : (colL N k i Q)[t]? = some (if t < k then rowL (i + 1) (Q t) else rowL i (Q t)) := by simp [colL, h]
theorem colL_zero (N i : Nat) (Q : Mx) : colL N 0 i Q = rowsL N i Q := by simp [colL, rowsL]
theorem colL_full (N i : Nat) (Q : Mx) : colL N N i Q = rowsL N (i + 1) Q := by
  refine List.map_congr_left fun t ht => ?_
  rw [if_pos (List.mem_range.1 ht)]
theorem colL_set (N k i : Nat) (Q : Mx) : (colL N k i Q).set k (rowL (i + 1) (Q k)) = colL N (k + 1) i Q := by
  apply List.ext_getElem?
  intro t
  rw [List.getElem?_set]
  by_cases ht : t < N
  · rw [colL_get ht, colL_get ht]
    by_cases hk : k = t
    · subst hk; simp [ht]
    · have : (t < k + 1) = (t < k) := by simp; omega
      simp [hk, this]
  · have e1 : (colL N k i Q)[t]? = none := List.getElem?_eq_none (by simpa using ht)
    have e2 : (colL N (k + 1) i Q)[t]? = none := List.getElem?_eq_none (by simpa using ht)
    rw [e2]
    by_cases hk : k = t
    · subst hk; simp [ht]
    · simp [hk, e1]
theorem rowL_succ (i : Nat) (f : Nat → B8) : rowL (i + 1) f = rowL i f ++ [f i] := by
  unfold rowL
  rw [List.range_succ, List.map_append]
  rfl
theorem OwnT.start {w : World} {B g N : Nat} {Q : Mx} (hg : w.heap[g]? = some (.cells (List.replicate N (Value.slice none 0 0)).toArray 22 (0, 0))) (hB : B ≤ g) (hN : N ≤ 1000000) :
    OwnT w B (some ⟨g, 0, none⟩) N (List.replicate N (.slice none 0 0)) (rowsL N 0 Q) := by
  refine ⟨⟨by simp, .inr ⟨g, N, _, by simp, hB, hg, by simp, by unfold maxLen; omega, by simp, ?_⟩⟩, by simp, fun k v l h1 h2 => ?_, fun i j u v hij h1 h2 b hb => ?_⟩
  · rw [length_rowsL, Nat.mul_one]
    exact List.take_of_length_le (by simp)
  · have hk : k < N := by
      rcases Nat.lt_or_ge k N with h | h
      · exact h
      · rw [List.getElem?_eq_none (by simpa using h)] at h1; cases h1
    rw [rowsL_get hk] at h2
    rw [List.getElem?_replicate, if_pos hk] at h1
    cases h1; cases h2
    exact ⟨World.ownsRow_nil _ _ _ _, by simp⟩
  · rw [List.getElem?_replicate] at h1
    split at h1
    · cases h1; cases hb
    · cases h1
/-- One row is another one, which lies where it lay, or where nothing lay. -/
theorem OwnT.repl {w w1 : World} {B g cap k : Nat} {vs : List Value} {LL : List (List B8)} {v v' : Value} {l l' : List B8} (h : OwnT w B (some ⟨g, 0, none⟩) cap vs LL) (hv : vs[k]? = some v) (hl : LL[k]? = some l)
    (hg : w.grownBy w1 v.ownBlock) (ho : w1.ownsRow B 5 1 v' l'.length (bys l')) (hm : l'.length ≤ 140737488351232) (hlie : v'.ownBlock = v.ownBlock ∨ v'.ownBlock = some w.heap.size) :
    OwnT (w1.setCell ⟨g, k, none⟩ v') B (some ⟨g, 0, none⟩) cap (vs.set k v') (LL.set k l') := by
  have hrow := (h.row k v l hv hl).1
  have hgv : v.ownBlock ≠ some g := fun he => own_ne hrow h.own (by decide) g rfl he
  have hglt : g < w.heap.size := (h.own.lt g rfl).2
  have hgv' : v'.ownBlock ≠ some g := by
    rcases hlie with e | e
    · rw [e]; exact hgv
    · rw [e]; intro he; injection he with he; omega
  have hown := own_grown h.own hg (own_ne hrow h.own (by decide))
  have hst := hown.stored k v'
  have hkv : k < vs.length := (List.getElem?_eq_some_iff.1 hv).1
  have hkl : k < LL.length := (List.getElem?_eq_some_iff.1 hl).1
  refine ⟨by rw [List.length_set]; exact hst.1, by simp [h.len], fun j u x h1 h2 => ?_, fun i j u x hij h1 h2 b hb => ?_⟩
  · rw [List.getElem?_set] at h1 h2
    by_cases hj : k = j
    · subst hj
      simp only [if_true, hkv, hkl] at h1 h2
      cases h1; cases h2
      exact ⟨own_other ho (grown_set w1 g k v') hgv', hm⟩
    · simp only [if_neg hj] at h1 h2
      obtain ⟨h3, h4⟩ := h.row j u x h1 h2
      refine ⟨own_other (own_grown h3 hg fun b hb => h.sep j k u v (fun e => hj e.symm) h1 hv b hb |> fun q => q) (grown_set w1 g k v') (fun he => own_ne h3 h.own (by decide) g rfl he), h4⟩
  · have hlt : ∀ (a : Nat) y, a ≠ k → vs[a]? = some y → ∀ c, y.ownBlock = some c → c < w.heap.size := by
      intro a y ha hy c hc
      have ha2 : a < LL.length := by rw [← h.len]; exact (List.getElem?_eq_some_iff.1 hy).1
      exact ((h.row a y _ hy (List.getElem?_eq_getElem ha2)).1.lt c hc).2
    rw [List.getElem?_set] at h1 h2
    by_cases hi : k = i
    · subst hi
      simp only [if_true, hkv] at h1
      cases h1
      rw [if_neg hij] at h2
      intro hx
      rcases hlie with e | e
      · rw [e] at hb; exact h.sep k j v x hij hv h2 b hb hx
      · rw [e] at hb; injection hb with hb
        have := hlt j x (fun e => hij e.symm) h2 b hx
        omega
    · simp only [if_neg hi] at h1
      by_cases hj : k = j
      · subst hj
        simp only [if_true, hkv] at h2
        cases h2
        intro hx
        rcases hlie with e | e
        · rw [e] at hx; exact h.sep i k u v hij h1 hv b hb hx
        · rw [e] at hx; injection hx with hx
          have := hlt i u hij h1 b hb
          omega
      · simp only [if_neg hj] at h2
        exact h.sep i j u x hij h1 h2 b hb
/-- No slice lies from block x up to y. -/
def FarR (x y : Nat) (vs : List Value) : Prop := ∀ (k : Nat) v, vs[k]? = some v → ∀ b, v.ownBlock = some b → b < x ∨ y ≤ b
theorem FarR.set {x y k : Nat} {vs : List Value} {v v' : Value} {z : Nat} (h : FarR x y vs) (hv : vs[k]? = some v) (hl : v'.ownBlock = v.ownBlock ∨ v'.ownBlock = some z) (hz : y ≤ z) : FarR x y (vs.set k v') := by
  intro j u hu b hb
  rw [List.getElem?_set] at hu
  by_cases hj : k = j
  · subst hj
    have hkv : k < vs.length := (List.getElem?_eq_some_iff.1 hv).1
    simp only [if_true, hkv] at hu
    cases hu
    rcases hl with e | e
    · rw [e] at hb; exact h k v hv b hb
    · rw [e] at hb; injection hb with hb; right; omega
  · rw [if_neg hj] at hu
    exact h j u hu b hb
theorem OwnT.far {w : World} {B cap y : Nat} {A : Option Addr} {vs : List Value} {LL : List (List B8)} (h : OwnT w B A cap vs LL) : FarR w.heap.size y vs := by
  intro k v hv b hb
  have hk : k < LL.length := by rw [← h.len]; exact (List.getElem?_eq_some_iff.1 hv).1
  exact .inl ((h.row k v _ hv (List.getElem?_eq_getElem hk)).1.lt b hb).2

end Go.Proofs.YtibidlgikecelaaDoor
