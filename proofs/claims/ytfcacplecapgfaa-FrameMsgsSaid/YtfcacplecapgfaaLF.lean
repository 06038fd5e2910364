/- An argument of bytes lies below. -/
import Derived.Test.YtfcacplecapgfaaLK
import Derived.Test.YtfcacplecapgfaaE17
namespace Go.Proofs.Ytfcacplecapgfaa
open Go.RowKit Go.WideShapes
set_option linter.unusedVariables false
set_option linter.unusedSimpArgs false

theorem okWide_far {P : Program} {w : World} {r : Reach} {base : Nat} {t e : TypeId} {A : Option Addr} {n c : Nat} (ht : P.underlying t = some (.slice e)) (h : Value.okWide P w r base t (.slice A n c)) :
    ∀ a, A = some a → a.spot = none ∧ a.block < w.heap.size := by
  rintro a rfl
  simp only [Value.okWide, ht, Cell.okWide, Cell.ok] at h
  obtain ⟨_, _, _, hs, row, cells, hsh, _⟩ := h
  refine ⟨hs, ?_⟩
  unfold World.shape? at hsh
  cases hx : w.heap[a.block]? with
  | none => rw [hx] at hsh; cases hsh
  | some o => exact (Array.getElem?_eq_some_iff.1 hx).1
end Go.Proofs.Ytfcacplecapgfaa
