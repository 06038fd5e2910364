/- Arguments of a law, opened: a code. -/
import Derived.Test.YtibidlgikecelaaDoorLI
namespace Go.Proofs.YtibidlgikecelaaDoor
open Go.ChangeShapes Go.WideShapes Go.ChangeAt Go.RowKit
set_option linter.unusedVariables false
set_option linter.unusedSimpArgs false
variable {H : Type} {enc : TypeId × Value → H} {W : World}

theorem list2 {α : Type} {l : List α} (h : l.length = 2) : ∃ a0 a1, l = [a0, a1] := by
  match l, h with
  | [a0, a1], _ => exact ⟨a0, a1, rfl⟩
/-- A code by value. -/
theorem open_code {r : Reach} {b0 : Nat} {v : Value} {d : DataW H} {p : List MemPlace}
    (hv : Value.okWide Tryd.prog W r b0 38 v) (h : DataW.Trod enc Tryd.prog W 0 (fun _ => true) true 38 v d p) :
    ∃ (K M : Int), v = .agg #[.int .i64 K, .int .i64 M] ∧ (Lit.int .i64 K).wf = true ∧ (Lit.int .i64 M).wf = true := by
  obtain ⟨cs, rfl, hsz'⟩ := okWide_struct Tryd.underlying38 hv
  obtain ⟨fuel, hf⟩ := h
  have c3 : Tryd.prog.cellsOf 3 = 1 := by kernel_rfl
  have h2 : Tryd.prog.cellsOf 38 = 2 := by kernel_rfl
  obtain ⟨ys, n', _, _, hlen, hyl, hk⟩ := DataW.trod_struct Tryd.underlying38 hf
  have hl : cs.toList.length = 2 := hlen.trans h2
  obtain ⟨a0, a1, hcs⟩ := list2 hl
  obtain ⟨y0, y1, rfl⟩ := list2 (by simpa using hyl)
  have hf' := hk
  simp only [Value.cells] at hf'
  rw [hcs] at hf'
  have k0 : DataW.trod enc Tryd.prog W 0 (fun _ => true) true n' 3 [a0] = some y0 := by simpa [c3] using hf' 0 _ rfl
  have k1 : DataW.trod enc Tryd.prog W 0 (fun _ => true) true n' 3 [a1] = some y1 := by simpa [c3] using hf' 1 _ rfl
  obtain ⟨j0, f0, _, u0⟩ := DataW.trod_int Tryd.underlying3 k0
  obtain ⟨j1, f1, _, u1⟩ := DataW.trod_int Tryd.underlying3 k1
  simp only [List.cons.injEq, and_true] at f0 f1
  subst f0 f1
  refine ⟨j0, j1, ?_, u0, u1⟩
  rw [← Array.toArray_toList (xs := cs), hcs]
end Go.Proofs.YtibidlgikecelaaDoor
