/- Contract: the deferred closure of frame.whole at a command. -/
import Derived.Test.YtfcacplecapgfaaE17
import Derived.Defers
import Derived.Recover
namespace Go.Proofs.Ytfcacplecapgfaa
open Go.RowKit
set_option linter.unusedVariables false
set_option linter.unusedSimpArgs false

theorem putAll_other {g k : Nat} (hk : k ≠ g) : ∀ (vs : List Value) (w : World) (i : Nat), (putAll w g i vs).heap[k]? = w.heap[k]?
  | [], w, i => rfl
  | v :: vs, w, i => (putAll_other hk vs _ _).trans (heap_setCell_other w ⟨g, i, none⟩ k v (by simp; omega))
theorem zero_put {w : World} {g g2 : Nat} {vs : List Value} {cs : Array Value} {T T2 : TypeId} {x y : Value} {o : Obj} (hg : w.heap[g]? = some (.cells cs T (0, 0))) (hl : vs.length = cs.size)
    (hg2 : w.heap[g2]? = some (.cells #[x] T2 (0, 0))) (hlt : g < g2) :
    (((putAll w g 0 vs).setCell ⟨g2, 0, none⟩ y).alloc o).heap[g]? = some (.cells vs.toArray T (0, 0)) ∧ (((putAll w g 0 vs).setCell ⟨g2, 0, none⟩ y).alloc o).heap[g2]? = some (.cells #[y] T2 (0, 0)) ∧
      Below g w (((putAll w g 0 vs).setCell ⟨g2, 0, none⟩ y).alloc o) := by
  have hlt2 : g2 < w.heap.size := (Array.getElem?_eq_some_iff.1 hg2).1
  have hrow := putAll_full (vs := vs) hg hl
  have hoth := putAll_other (g := g) (k := g2) (by omega) vs w 0
  have hbF := putAll_below (B := g) (Nat.le_refl _) vs w 0 (Below.refl g w)
  have hsz := putAll_size g vs w 0
  generalize putAll w g 0 vs = wp at *
  have k1 := (heap_setCell_other wp ⟨g2, 0, none⟩ g y (by simp; omega)).trans hrow
  have k2 := heap_setCell_same wp g2 0 _ _ y (hoth.trans hg2)
  have hbG : Below g w (wp.setCell ⟨g2, 0, none⟩ y) := hbF.setCell (by show g ≤ g2; omega) y
  have hsz2 : (wp.setCell ⟨g2, 0, none⟩ y).heap.size = wp.heap.size := by simp
  exact ⟨((below1' _ o).block g (by omega)).trans k1, ((below1' _ o).block g2 (by omega)).trans k2, hbG.alloc (by omega) _⟩
/-- The panic that was caught. -/
def caughtCh : List PanicEntry := [{ v := .iface 90 (.agg #[]), recovered := true }]
set_option maxHeartbeats 2000000 in
set_option maxRecDepth 100000 in
theorem catchC_panic {w : World} {g g2 : Nat} {c : Cm} {v : Value} {x : Int} (hg : w.heap[g]? = some (.cells #[.int .i64 c.id, .int .i64 c.kind, .string c.key, .int .i64 c.blob, .int .i64 c.other, .int .i64 c.index, .int .i64 c.node, .int .i64 c.size, .int .u32 c.sum, .int .i64 c.k, .int .i64 c.m, v] 27 (0, 0))) (hg2 : w.heap[g2]? = some (.cells #[.int .i64 x] 29 (0, 0))) (hlt : g < g2) :
    CallsD Try.prog 50 #[.pointer (some ⟨g, 0, none⟩), .pointer (some ⟨g2, 0, none⟩)] (.panicking wrongCh) w fun e u' w' =>
      e = .returned (.tuple #[]) ∧ u' = .panicking caughtCh ∧ w'.heap[g]? = some (.cells #[.int .i64 zeroC.id, .int .i64 zeroC.kind, .string zeroC.key, .int .i64 zeroC.blob, .int .i64 zeroC.other, .int .i64 zeroC.index, .int .i64 zeroC.node, .int .i64 zeroC.size, .int .u32 zeroC.sum, .int .i64 zeroC.k, .int .i64 zeroC.m, .slice none 0 0] 27 (0, 0)) ∧ w'.heap[g2]? = some (.cells #[.int .i64 51] 29 (0, 0)) ∧ Below g w w' := by
  have hlt2 : g2 < w.heap.size := (Array.getElem?_eq_some_iff.1 hg2).1
  have e := cells_of hg
  obtain ⟨e0, e1, e2, e3, e4, e5, e6, e7, e8, e9, e10, e11⟩ := e
  have hfz := fun o => frozen_of_row _ g o _ _ hg
  have hc2 := cell_of_row _ _ 0 _ _ (0, 0) hg2
  have hf2 := frozen_of_row _ g2 0 _ _ hg2
  simp only [List.getElem?_toArray, List.getElem?_cons_zero] at hc2
  have HG := Lib.hid hg
  have HG2 := Lib.hid hg2
  clear hg hg2
  refine callsD_of_wpS Try.func50 rfl fun c₀ cs hu => ?_
  apply wpS_seq
  apply wpS_region
  simp [wpOpsS, go_sem, recoverD, hu, Try.ntmps50, Exit.thenS, wrongCh]
  refine wpS_of_wp ?_
  have hne : ¬ g = w.heap.size := by omega
  have hne2 : ¬ g2 = w.heap.size := by omega
  have hne3 : ¬ g = g2 := by omega
  have hne4 : ¬ g2 = g := by omega
  have hgl : g < w.heap.size := by omega
  go_wp2_with fail
  have HZ := Lib.hid (zero_put (g2 := g2) (y := .int .i64 51) (o := .cells #[.int .i64 0, .int .i64 0, .string ⟨#[]⟩, .int .i64 0, .int .i64 0, .int .i64 0, .int .i64 0, .int .i64 0, .int .u32 0, .int .i64 0, .int .i64 0, .slice none 0 0] 27) (vs := #[.int .i64 0, .int .i64 0, .string ⟨#[]⟩, .int .i64 0, .int .i64 0, .int .i64 0, .int .i64 0, .int .i64 0, .int .u32 0, .int .i64 0, .int .i64 0, .slice none 0 0].toList) HG.out rfl HG2.out hlt)
  refine ⟨rfl, .panicking caughtCh, rfl, .tuple #[], ?_, rfl, rfl, HZ.out⟩
  simp [results, Try.results50]

theorem catchC_idle (p q : Value) (w : World) :
    CallsD Try.prog 50 #[p, q] .returning w fun e u' w' => e = .returned (.tuple #[]) ∧ u' = .returning ∧ w' = w := by
  refine callsD_of_wpS Try.func50 rfl fun c₀ cs hu => ?_
  apply wpS_seq
  apply wpS_region
  simp [wpOpsS, go_sem, recoverD, hu, Try.ntmps50, Exit.thenS]
  refine wpS_of_wp ?_
  go_wp2_with fail
  cases c₀
  simp_all [bodyPostS, results, Try.results50]
end Go.Proofs.Ytfcacplecapgfaa
