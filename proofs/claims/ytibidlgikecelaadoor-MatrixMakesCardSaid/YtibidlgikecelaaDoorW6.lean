/- Contracts: matrix.is, on. -/
import Derived.Test.YtibidlgikecelaaDoorW5
namespace Go.Proofs.YtibidlgikecelaaDoor
open Go.RowKit
set_option linter.unusedVariables false
set_option linter.unusedSimpArgs false

/-- Rows are a matrix. -/
def isB : List (List B8) → Bool
  | [] => false
  | l :: L => decide ((l :: L).length ≤ 255) && decide (0 < l.length) && decide (l.length ≤ 255) && (l :: L).all fun r => decide (r.length = l.length)
theorem oddRow_neg {L : List (List B8)} {l0 : Nat} : (L.all fun r => decide (r.length = l0)) = decide (oddRow L l0 < 0) := by
  unfold oddRow
  cases h : L.findIdx? fun r => decide (r.length ≠ l0) with
  | none =>
    rw [List.findIdx?_eq_none_iff] at h
    have : (L.all fun r => decide (r.length = l0)) = true := by
      rw [List.all_eq_true]
      intro r hr
      simpa using h r hr
    rw [this]; rfl
  | some k =>
    rw [List.findIdx?_eq_some_iff_getElem] at h
    obtain ⟨hk, h1, _⟩ := h
    have : (L.all fun r => decide (r.length = l0)) = false := by
      rw [List.all_eq_false]
      exact ⟨_, List.getElem_mem hk, by simpa using h1⟩
    rw [this]
    simp

set_option maxHeartbeats 400000 in
set_option maxRecDepth 100000 in
theorem ishas_calls {w : World} {g b off n c l0 c0 : Nat} {A0 : Option Addr} {vs : List Value} {L : List (List B8)} (hA : At w (some ⟨b, off, none⟩) vs) (hL : Texts w vs L) (hn : n = L.length) (hmax : L.length ≤ 255)
    (hg : w.cell? ⟨g, 0, none⟩ = some (.slice (some ⟨b, off, none⟩) n c)) (h0 : w.cell? ⟨b, off, none⟩ = some (.slice A0 l0 c0)) :
    Calls Tryd.prog 69 #[.slice (some ⟨b, off, none⟩) n c, .func (.func 88) #[] #[.pointer (some ⟨g, 0, none⟩)]] w fun e w' => e = .returned (.bool (decide (0 ≤ oddRow L l0))) ∧ w = w' := by
  subst hn
  have HC := Lib.hid (isidx_calls hA hL rfl hmax hg h0)
  generalize oddRow L l0 = r at *
  go_enter Tryd.func69, Tryd.ntmps69
  go_wp2_with fail
  refine HC.out.mono ?_
  rintro e w' ⟨rfl, rfl⟩
  go_wp2_with fail
  go_ret
  exact ⟨rfl, rfl⟩

/-- A call answers a value, and lays no more than what is new. -/
def RetV (w : World) (v : Value) (e : Ending) (w' : World) : Prop := e = .returned v ∧ Below w.heap.size w w'
theorem below1' (w : World) (o1 : Obj) : Below w.heap.size w (w.alloc o1) := (Below.refl _ _).alloc (Nat.le_refl _) _

theorem isB_of {L : List (List B8)} {l : List B8} (hl : L[0]? = some l) : isB L = (decide (L.length ≤ 255) && decide (0 < l.length) && decide (l.length ≤ 255) && decide (oddRow L l.length < 0)) := by
  cases L with
  | nil => cases hl
  | cons x L =>
    obtain rfl : x = l := Option.some.inj hl
    rw [← oddRow_neg]
    rfl
theorem box_cell (w : World) (v : Value) (t : TypeId) : (w.alloc (.cells #[v] t)).cell? ⟨w.heap.size, 0, none⟩ = some v :=
  cell_of_row _ _ 0 _ _ (0, 0) (heap_alloc_new w _)

set_option maxHeartbeats 800000 in
set_option maxRecDepth 100000 in
theorem is_calls {w : World} {A : Option Addr} {n c : Nat} {vs : List Value} {L : List (List B8)} (hA : At w A vs) (hL : Texts w vs L) (hn : n = L.length) :
    Calls Tryd.prog 59 #[.slice A n c] w (RetV w (.bool (isB L))) := by
  subst hn
  have hbw := below1' w (.cells #[.slice A L.length c] 24)
  by_cases h1 : 0 < L.length
  · have hb1 : decide (0 < (L.length : Int)) = true := decide_eq_true (by omega)
    by_cases h2 : L.length ≤ 255
    · have hb2 : decide ((L.length : Int) ≤ 255) = true := decide_eq_true (by omega)
      obtain ⟨l, hl, X, cx, hv, hXA, hX2, hX3, hX4⟩ := hL.get (by rw [hL.1]; exact h1 : 0 < vs.length)
      have hB := isB_of hl
      generalize isB L = r at hB ⊢
      rw [decide_eq_true h2, Bool.true_and] at hB
      obtain ⟨b, off, rfl, hc⟩ := hA 0 _ (List.getElem?_eq_getElem (by rw [hL.1]; exact h1 : 0 < vs.length))
      rw [hv, Nat.add_zero] at hc
      have hcw := (hbw.cell (p := ⟨b, off, none⟩) (block_lt hc)).trans hc
      have hHas := ishas_calls (g := w.heap.size) (hA.below hbw) (hL.below hbw) rfl h2 (c := c) (box_cell w _ _) hcw
      have hi0 : (0 : Int) < (L.length : Int) := by omega
      by_cases h3 : 0 < l.length
      · have hb3 : decide (0 < (l.length : Int)) = true := decide_eq_true (by omega)
        rw [decide_eq_true h3, Bool.true_and] at hB
        by_cases h4 : l.length ≤ 255
        · have hb4 : decide ((l.length : Int) ≤ 255) = true := decide_eq_true (by omega)
          rw [decide_eq_true h4, Bool.true_and] at hB
          have HR : r = !decide (0 ≤ oddRow L l.length) := by
            rw [hB]
            by_cases h : 0 ≤ oddRow L l.length
            · rw [decide_eq_true h, decide_eq_false (by omega)]; rfl
            · rw [decide_eq_false h, decide_eq_true (by omega)]; rfl
          generalize decide (0 ≤ oddRow L l.length) = y at *
          have HR := Lib.hid HR
          have HH := Lib.hid hHas
          clear hB hHas hv hl
          go_enter Tryd.func59, Tryd.ntmps59
          go_wp2_with fail
          refine HH.out.mono ?_
          rintro e w1 ⟨rfl, rfl⟩
          go_wp2_with fail
          go_ret
          exact ⟨ret_bool HR.out.symm, hbw⟩
        · have hb4 : decide ((l.length : Int) ≤ 255) = false := decide_eq_false (by omega)
          rw [decide_eq_false h4, Bool.false_and] at hB
          subst hB
          clear hHas hv hl
          go_enter Tryd.func59, Tryd.ntmps59
          go_wp2_with fail
          go_ret
          exact ⟨rfl, hbw⟩
      · have hb3 : decide (0 < (l.length : Int)) = false := decide_eq_false (by omega)
        rw [decide_eq_false h3, Bool.false_and, Bool.false_and] at hB
        subst hB
        clear hHas hv hl
        go_enter Tryd.func59, Tryd.ntmps59
        go_wp2_with fail
        go_ret
        exact ⟨rfl, hbw⟩
    · have hb2 : decide ((L.length : Int) ≤ 255) = false := decide_eq_false (by omega)
      have hf : isB L = false := by
        cases L with
        | nil => rfl
        | cons l L => simp only [isB, decide_eq_false h2, Bool.false_and]
      generalize isB L = r at *
      subst hf
      go_enter Tryd.func59, Tryd.ntmps59
      go_wp2_with fail
      go_ret
      exact ⟨rfl, hbw⟩
  · have hL0 : L = [] := by
      cases L with
      | nil => rfl
      | cons x L => exact absurd (Nat.succ_pos L.length) h1
    have hb1 : decide (0 < (L.length : Int)) = false := by rw [hL0]; rfl
    have hf : isB L = false := by rw [hL0]; rfl
    generalize isB L = r at *
    subst hf
    clear hL0
    go_enter Tryd.func59, Tryd.ntmps59
    go_wp2_with fail
    go_ret
    exact ⟨rfl, hbw⟩

end Go.Proofs.YtibidlgikecelaaDoor
