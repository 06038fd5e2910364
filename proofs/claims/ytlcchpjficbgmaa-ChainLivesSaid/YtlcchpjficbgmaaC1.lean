/- Chains: commands by value; chain.own, amphoraref09.CopyCmd. -/
import Derived.Test.YtlcchpjficbgmaaI2
namespace Go.Proofs.Ytlcchpjficbgmaa
open Go.RowKit
set_option linter.unusedVariables false
set_option linter.unusedSimpArgs false

/-- A command without its nodes. -/
structure Cm where
  id : Int
  kind : Int
  key : ByteArray
  blob : Int
  other : Int
  index : Int
  node : Int
  size : Int
  sum : Int
  k : Int
  m : Int

/-- A command's value. -/
def cmv (c : Cm) (v : Value) : Value := .agg #[.int .i64 c.id, .int .i64 c.kind, .string c.key, .int .i64 c.blob, .int .i64 c.other, .int .i64 c.index, .int .i64 c.node, .int .i64 c.size, .int .u32 c.sum, .int .i64 c.k, .int .i64 c.m, v]

/-- A call answers a command whose nodes are its own. -/
def RetC (w : World) (c : Cm) (l : List Int) (e : Ending) (w' : World) : Prop :=
  ∃ A d, e = .returned (cmv c (.slice A l.length d)) ∧ w'.ownsRow w.heap.size 3 1 (.slice A l.length d) l.length (ints l) ∧ Below w.heap.size w w'

set_option maxHeartbeats 400000 in
set_option maxRecDepth 100000 in
theorem own_calls {w : World} (c : Cm) {A : Option Addr} {n d : Nat} {l : List Int} (hA : At w A (ints l)) (hn : n = l.length) (hnil : A = none → d = 0) (hmax : l.length * 8 ≤ 140737488355328) :
    Calls Try.prog 24 #[.agg #[.int .i64 c.id, .int .i64 c.kind, .string c.key, .int .i64 c.blob, .int .i64 c.other, .int .i64 c.index, .int .i64 c.node, .int .i64 c.size, .int .u32 c.sum, .int .i64 c.k, .int .i64 c.m, .slice A n d]] w (RetC w c l) := by
  have HN := Lib.hid hn
  clear hn
  go_enter Try.func24, Try.ntmps24
  go_wp2_with (go_at_call 30; refine (iclone_calls (hA.below (below2 _ _ _)) HN.out hnil hmax).mono ?_; rintro e w1 ⟨A1, c1, rfl, ho, hb⟩; obtain ⟨hc, hf⟩ := bcell hb; have h11 : w1.cell? ⟨w.heap.size, 11, none⟩ = some (.slice A n d) := (hc _ _ (by simp; omega)).trans (by go_simp))
  have hb1 : w1.heap[w.heap.size + 1]? = _ := (hb.block _ (by simp)).trans (heap_alloc2_new _ _ _)
  have ho2 := putAll_owns (g := w.heap.size) (by simp; omega) [.slice A1 n c1] w1 11 ho
  have hb2 := heap_setCell_other w1 ⟨w.heap.size, 11, none⟩ (w.heap.size + 1) (.slice A1 n c1) (by simp)
  have hbl := putAll_below (B := w.heap.size) (g := w.heap.size + 1) (by omega) #[.int .i64 c.id, .int .i64 c.kind, .string c.key, .int .i64 c.blob, .int .i64 c.other, .int .i64 c.index, .int .i64 c.node, .int .i64 c.size, .int .u32 c.sum, .int .i64 c.k, .int .i64 c.m, .slice A1 n c1].toList _ 0 (putAll_below (g := w.heap.size) (Nat.le_refl _) [.slice A1 n c1] w1 11 ((below2 w _ _).trans (hb.mono (by simp; omega))))
  replace ho2 := putAll_owns (g := w.heap.size + 1) (by simp) #[.int .i64 c.id, .int .i64 c.kind, .string c.key, .int .i64 c.blob, .int .i64 c.other, .int .i64 c.index, .int .i64 c.node, .int .i64 c.size, .int .u32 c.sum, .int .i64 c.k, .int .i64 c.m, .slice A1 n c1].toList _ 0 ho2
  have hr := putAll_full (vs := #[.int .i64 c.id, .int .i64 c.kind, .string c.key, .int .i64 c.blob, .int .i64 c.other, .int .i64 c.index, .int .i64 c.node, .int .i64 c.size, .int .u32 c.sum, .int .i64 c.k, .int .i64 c.m, .slice A1 n c1].toList) (hb2.trans hb1) rfl
  refine bodyPost_ret (results_cell_row rfl _ _ (w.heap.size + 1) 27 #[.int .i64 c.id, .int .i64 c.kind, .string c.key, .int .i64 c.blob, .int .i64 c.other, .int .i64 c.index, .int .i64 c.node, .int .i64 c.size, .int .u32 c.sum, .int .i64 c.k, .int .i64 c.m, .slice A1 n c1] (0, 0) _ rfl hr Try.underlying27 rfl (by kernel_rfl)) rfl ?_
  refine ⟨A1, c1, by rw [← HN.out]; rfl, ?_, ?_⟩
  · rw [← HN.out]
    exact own_lower ho2 (by simp; omega)
  · exact hbl

end Go.Proofs.Ytlcchpjficbgmaa
