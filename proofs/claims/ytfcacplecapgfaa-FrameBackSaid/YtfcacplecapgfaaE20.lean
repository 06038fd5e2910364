/- Contract: amphoraplain.SameCmd of commands that are the same. -/
import Derived.Test.YtfcacplecapgfaaE19
import Derived.Test.YtfcacplecapgfaaI2
namespace Go.Proofs.Ytfcacplecapgfaa
open Go.RowKit
set_option linter.unusedVariables false
set_option linter.unusedSimpArgs false

theorem eql_codeR (k m : Int) (w : World) : (binOp .eql 24 (.agg #[.int .i64 k, .int .i64 m]) (.agg #[.int .i64 k, .int .i64 m])).run Try.prog w = .ok (.bool true) w := by
  go_simp
theorem cmd2_boxes (w : World) (c : Cm) (v u : Value) : ∃ w3, w3 = (w.alloc (.cells #[.int .i64 c.id, .int .i64 c.kind, .string c.key, .int .i64 c.blob, .int .i64 c.other, .int .i64 c.index, .int .i64 c.node, .int .i64 c.size, .int .u32 c.sum, .int .i64 c.k, .int .i64 c.m, v] 27)).alloc (.cells #[.int .i64 c.id, .int .i64 c.kind, .string c.key, .int .i64 c.blob, .int .i64 c.other, .int .i64 c.index, .int .i64 c.node, .int .i64 c.size, .int .u32 c.sum, .int .i64 c.k, .int .i64 c.m, u] 27) ∧ Below w.heap.size w w3 ∧
    w3.heap[w.heap.size]? = some (.cells #[.int .i64 c.id, .int .i64 c.kind, .string c.key, .int .i64 c.blob, .int .i64 c.other, .int .i64 c.index, .int .i64 c.node, .int .i64 c.size, .int .u32 c.sum, .int .i64 c.k, .int .i64 c.m, v] 27 (0, 0)) ∧ w3.heap[w.heap.size + 1]? = some (.cells #[.int .i64 c.id, .int .i64 c.kind, .string c.key, .int .i64 c.blob, .int .i64 c.other, .int .i64 c.index, .int .i64 c.node, .int .i64 c.size, .int .u32 c.sum, .int .i64 c.k, .int .i64 c.m, u] 27 (0, 0)) := by
  refine ⟨_, rfl, ?_⟩
  have hb1 := below1' w (.cells #[.int .i64 c.id, .int .i64 c.kind, .string c.key, .int .i64 c.blob, .int .i64 c.other, .int .i64 c.index, .int .i64 c.node, .int .i64 c.size, .int .u32 c.sum, .int .i64 c.k, .int .i64 c.m, v] 27)
  have h1 : (w.alloc (.cells #[.int .i64 c.id, .int .i64 c.kind, .string c.key, .int .i64 c.blob, .int .i64 c.other, .int .i64 c.index, .int .i64 c.node, .int .i64 c.size, .int .u32 c.sum, .int .i64 c.k, .int .i64 c.m, v] 27)).heap[w.heap.size]? = some (.cells #[.int .i64 c.id, .int .i64 c.kind, .string c.key, .int .i64 c.blob, .int .i64 c.other, .int .i64 c.index, .int .i64 c.node, .int .i64 c.size, .int .u32 c.sum, .int .i64 c.k, .int .i64 c.m, v] 27 (0, 0)) := heap_alloc_new w _
  have hs1 : (w.alloc (.cells #[.int .i64 c.id, .int .i64 c.kind, .string c.key, .int .i64 c.blob, .int .i64 c.other, .int .i64 c.index, .int .i64 c.node, .int .i64 c.size, .int .u32 c.sum, .int .i64 c.k, .int .i64 c.m, v] 27)).heap.size = w.heap.size + 1 := by simp
  generalize w.alloc (.cells #[.int .i64 c.id, .int .i64 c.kind, .string c.key, .int .i64 c.blob, .int .i64 c.other, .int .i64 c.index, .int .i64 c.node, .int .i64 c.size, .int .u32 c.sum, .int .i64 c.k, .int .i64 c.m, v] 27) = wa at *
  have hb2 := below1' wa (.cells #[.int .i64 c.id, .int .i64 c.kind, .string c.key, .int .i64 c.blob, .int .i64 c.other, .int .i64 c.index, .int .i64 c.node, .int .i64 c.size, .int .u32 c.sum, .int .i64 c.k, .int .i64 c.m, u] 27)
  have h2 : (wa.alloc (.cells #[.int .i64 c.id, .int .i64 c.kind, .string c.key, .int .i64 c.blob, .int .i64 c.other, .int .i64 c.index, .int .i64 c.node, .int .i64 c.size, .int .u32 c.sum, .int .i64 c.k, .int .i64 c.m, u] 27)).heap[wa.heap.size]? = some (.cells #[.int .i64 c.id, .int .i64 c.kind, .string c.key, .int .i64 c.blob, .int .i64 c.other, .int .i64 c.index, .int .i64 c.node, .int .i64 c.size, .int .u32 c.sum, .int .i64 c.k, .int .i64 c.m, u] 27 (0, 0)) := heap_alloc_new wa _
  rw [hs1] at h2
  exact ⟨hb1.trans (hb2.mono (by omega)), (hb2.block w.heap.size (by omega)).trans h1, h2⟩

set_option maxHeartbeats 4000000 in
set_option maxRecDepth 100000 in
theorem psame_calls {w : World} {c : Cm} {l : List Int} {A B : Option Addr} {n a b : Nat} (hA : At w A (ints l)) (hB : At w B (ints l)) (hn : n = l.length) (hmax : l.length * 8 ≤ 140737488355328) :
    Calls Try.prog 12 #[.agg #[.int .i64 c.id, .int .i64 c.kind, .string c.key, .int .i64 c.blob, .int .i64 c.other, .int .i64 c.index, .int .i64 c.node, .int .i64 c.size, .int .u32 c.sum, .int .i64 c.k, .int .i64 c.m, .slice A n a], .agg #[.int .i64 c.id, .int .i64 c.kind, .string c.key, .int .i64 c.blob, .int .i64 c.other, .int .i64 c.index, .int .i64 c.node, .int .i64 c.size, .int .u32 c.sum, .int .i64 c.k, .int .i64 c.m, .slice B n b]] w (RetV w (.bool true)) := by
  obtain ⟨w3, hw3, hB3, hr3, hs3⟩ := cmd2_boxes w c (.slice A n a) (.slice B n b)
  have HW := Lib.hid hw3
  have HN := Lib.hid (iequal_calls (c := a) (d := b) (hA.below hB3) (hB.below hB3) hn hn hmax)
  have e := cells_of hr3
  obtain ⟨e0, e1, e2, e3, e4, e5, e6, e7, e8, e9, e10, e11⟩ := e
  have z := cells_of hs3
  obtain ⟨z0, z1, z2, z3, z4, z5, z6, z7, z8, z9, z10, z11⟩ := z
  have hq := eql_codeR c.k c.m
  rw [hw3] at e0 e1 e2 e3 e4 e5 e6 e7 e8 e9 e10 e11 z0 z1 z2 z3 z4 z5 z6 z7 z8 z9 z10 z11
  clear hw3 hr3 hs3 hA hB hn hmax
  go_enter Try.func12, Try.ntmps12
  go_wp2_with fail
  have hw3 := HW.out
  rw [← hw3]
  clear hw3 HW e0 e1 e2 e3 e4 e5 e6 e7 e8 e9 e10 e11 z0 z1 z2 z3 z4 z5 z6 z7 z8 z9 z10 z11
  refine HN.out.mono ?_
  rintro e w4 ⟨rfl, q, rfl⟩
  go_wp2_with fail
  go_ret
  exact ⟨by simp, hB3.trans (belowN q)⟩
end Go.Proofs.Ytfcacplecapgfaa
