/- Chains: chain.same. -/
import Derived.Test.YtlcchpjficbgmaaC2
import Derived.Deep.RegionHeld3
import Derived.ChangeKeysEq
namespace Go.Proofs.Ytlcchpjficbgmaa
open Go.RowKit
set_option linter.unusedVariables false
set_option linter.unusedSimpArgs false

def SumOk (c : Cm) : Prop := 0 ≤ c.sum ∧ c.sum < 4294967296
def nums (c : Cm) : Array Value := #[.int .i64 c.id, .int .i64 c.kind, .int .i64 c.blob, .int .i64 c.other, .int .i64 c.index, .int .i64 c.node, .int .i64 c.size, .int .i64 c.sum]

set_option maxHeartbeats 400000 in
set_option maxRecDepth 100000 in
theorem nums_calls {w : World} (c : Cm) (v : Value) (hs : SumOk c) :
    Calls Try.prog 29 #[.agg #[.int .i64 c.id, .int .i64 c.kind, .string c.key, .int .i64 c.blob, .int .i64 c.other, .int .i64 c.index, .int .i64 c.node, .int .i64 c.size, .int .u32 c.sum, .int .i64 c.k, .int .i64 c.m, v]] w fun e w' => e = .returned (.agg #[.int .i64 c.id, .int .i64 c.kind, .int .i64 c.blob, .int .i64 c.other, .int .i64 c.index, .int .i64 c.node, .int .i64 c.size, .int .i64 c.sum]) ∧ Below w.heap.size w w' := by
  obtain ⟨h1, h2⟩ := hs
  go_enter Try.func29, Try.ntmps29
  go_wp2_with fail
  refine bodyPost_ret (results_cell_row rfl _ _ (w.heap.size + 1) 65 #[.int .i64 c.id, .int .i64 c.kind, .int .i64 c.blob, .int .i64 c.other, .int .i64 c.index, .int .i64 c.node, .int .i64 c.size, .int .i64 c.sum] (0, 0) _ rfl (heap_alloc2_new _ _ _) Try.underlying65 rfl (by kernel_rfl)) rfl ?_
  exact ⟨rfl, below2 _ _ _⟩

/-- Are the numbers the same? -/
def numsB (c d : Cm) : Bool := decide (c.id = d.id ∧ c.kind = d.kind ∧ c.blob = d.blob ∧ c.other = d.other ∧ c.index = d.index ∧ c.node = d.node ∧ c.size = d.size ∧ c.sum = d.sum)
def codeB (c d : Cm) : Bool := decide (c.k = d.k ∧ c.m = d.m)
def keyB (c d : Cm) : Bool := c.key.toList == d.key.toList
def sameB (x y : Cd) : Bool := numsB x.1 y.1 && keyB x.1 y.1 && codeB x.1 y.1 && decide (x.2 = y.2)

theorem eql_nums (c d : Cm) (w : World) : (binOp .eql 65 (.agg #[.int .i64 c.id, .int .i64 c.kind, .int .i64 c.blob, .int .i64 c.other, .int .i64 c.index, .int .i64 c.node, .int .i64 c.size, .int .i64 c.sum]) (.agg #[.int .i64 d.id, .int .i64 d.kind, .int .i64 d.blob, .int .i64 d.other, .int .i64 d.index, .int .i64 d.node, .int .i64 d.size, .int .i64 d.sum])).run Try.prog w = .ok (.bool (numsB c d)) w := by
  obtain ⟨i, hi, hz0, hz1, hz2⟩ := info_parts i64info
  rw [run_eql_struct, run_equalIn_array w 9999 _ _ Try.underlying65 hi]
  have hc : Try.prog.cellsOf 3 = 1 := by kernel_rfl
  rw [hc]
  have hr : List.range 8 = [0, 1, 2, 3, 4, 5, 6, 7] := rfl
  rw [hr]
  simp only [Op.eqItems]
  go_simp
  unfold numsB
  (repeat' split) <;> simp_all
theorem eql_code (c d : Cm) (w : World) : (binOp .eql 24 (.agg #[.int .i64 c.k, .int .i64 c.m]) (.agg #[.int .i64 d.k, .int .i64 d.m])).run Try.prog w = .ok (.bool (codeB c d)) w := by
  go_simp
  unfold codeB
  (repeat' split) <;> simp_all

theorem two_boxes (w : World) (cs ds : Array Value) (T : TypeId) : Below w.heap.size w ((w.alloc (.cells cs T)).alloc (.cells ds T)) ∧ w.heap.size < ((w.alloc (.cells cs T)).alloc (.cells ds T)).heap.size ∧ w.heap.size + 1 < ((w.alloc (.cells cs T)).alloc (.cells ds T)).heap.size ∧
    ∀ i, ((w.alloc (.cells cs T)).alloc (.cells ds T)).cell? ⟨w.heap.size, i, none⟩ = cs[i]? ∧ ((w.alloc (.cells cs T)).alloc (.cells ds T)).cell? ⟨w.heap.size + 1, i, none⟩ = ds[i]? :=
  ⟨below2 _ _ _, by simp; omega, by simp, fun i => ⟨blk_cell (heap_alloc2_old _ _ _) i, blk_cell (heap_alloc2_new _ _ _) i⟩⟩

/-- Two commands lie in two blocks of the call's own. -/
abbrev Two (w : World) (c d : Cm) (va vb : Value) (W : World) : Prop :=
  Below w.heap.size w W ∧ w.heap.size < W.heap.size ∧ w.heap.size + 1 < W.heap.size ∧ W.cell? ⟨w.heap.size, 0, none⟩ = some (.int .i64 c.id) ∧ W.cell? ⟨w.heap.size, 1, none⟩ = some (.int .i64 c.kind) ∧ W.cell? ⟨w.heap.size, 2, none⟩ = some (.string c.key) ∧ W.cell? ⟨w.heap.size, 3, none⟩ = some (.int .i64 c.blob) ∧ W.cell? ⟨w.heap.size, 4, none⟩ = some (.int .i64 c.other) ∧ W.cell? ⟨w.heap.size, 5, none⟩ = some (.int .i64 c.index) ∧ W.cell? ⟨w.heap.size, 6, none⟩ = some (.int .i64 c.node) ∧ W.cell? ⟨w.heap.size, 7, none⟩ = some (.int .i64 c.size) ∧ W.cell? ⟨w.heap.size, 8, none⟩ = some (.int .u32 c.sum) ∧ W.cell? ⟨w.heap.size, 9, none⟩ = some (.int .i64 c.k) ∧ W.cell? ⟨w.heap.size, 10, none⟩ = some (.int .i64 c.m) ∧ W.cell? ⟨w.heap.size, 11, none⟩ = some va ∧ W.cell? ⟨w.heap.size + 1, 0, none⟩ = some (.int .i64 d.id) ∧ W.cell? ⟨w.heap.size + 1, 1, none⟩ = some (.int .i64 d.kind) ∧ W.cell? ⟨w.heap.size + 1, 2, none⟩ = some (.string d.key) ∧ W.cell? ⟨w.heap.size + 1, 3, none⟩ = some (.int .i64 d.blob) ∧ W.cell? ⟨w.heap.size + 1, 4, none⟩ = some (.int .i64 d.other) ∧ W.cell? ⟨w.heap.size + 1, 5, none⟩ = some (.int .i64 d.index) ∧ W.cell? ⟨w.heap.size + 1, 6, none⟩ = some (.int .i64 d.node) ∧ W.cell? ⟨w.heap.size + 1, 7, none⟩ = some (.int .i64 d.size) ∧ W.cell? ⟨w.heap.size + 1, 8, none⟩ = some (.int .u32 d.sum) ∧ W.cell? ⟨w.heap.size + 1, 9, none⟩ = some (.int .i64 d.k) ∧ W.cell? ⟨w.heap.size + 1, 10, none⟩ = some (.int .i64 d.m) ∧ W.cell? ⟨w.heap.size + 1, 11, none⟩ = some vb
theorem Two.step {w W w' : World} {c d : Cm} {va vb : Value} (h : Two w c d va vb W) (hb : Below W.heap.size W w') : Two w c d va vb w' := by
  obtain ⟨h0, h1, h2, a0, a1, a2, a3, a4, a5, a6, a7, a8, a9, a10, a11, b0, b1, b2, b3, b4, b5, b6, b7, b8, b9, b10, b11⟩ := h
  have k1 : ∀ o, w'.cell? ⟨w.heap.size, o, none⟩ = W.cell? ⟨w.heap.size, o, none⟩ := fun o => hb.cell (p := ⟨w.heap.size, o, none⟩) h1
  have k2 : ∀ o, w'.cell? ⟨w.heap.size + 1, o, none⟩ = W.cell? ⟨w.heap.size + 1, o, none⟩ := fun o => hb.cell (p := ⟨w.heap.size + 1, o, none⟩) h2
  have hs := hb.size
  refine ⟨h0.trans (hb.mono (Nat.le_of_lt h1)), by omega, by omega, ?_⟩
  rw [k1, k1, k1, k1, k1, k1, k1, k1, k1, k1, k1, k1, k2, k2, k2, k2, k2, k2, k2, k2, k2, k2, k2, k2]
  exact ⟨a0, a1, a2, a3, a4, a5, a6, a7, a8, a9, a10, a11, b0, b1, b2, b3, b4, b5, b6, b7, b8, b9, b10, b11⟩
theorem Two.start (w : World) (c d : Cm) (va vb : Value) (T : TypeId) : Two w c d va vb ((w.alloc (.cells #[.int .i64 c.id, .int .i64 c.kind, .string c.key, .int .i64 c.blob, .int .i64 c.other, .int .i64 c.index, .int .i64 c.node, .int .i64 c.size, .int .u32 c.sum, .int .i64 c.k, .int .i64 c.m, va] T)).alloc (.cells #[.int .i64 d.id, .int .i64 d.kind, .string d.key, .int .i64 d.blob, .int .i64 d.other, .int .i64 d.index, .int .i64 d.node, .int .i64 d.size, .int .u32 d.sum, .int .i64 d.k, .int .i64 d.m, vb] T)) := by
  obtain ⟨hB0, hz1, hz2, hC⟩ := two_boxes w #[.int .i64 c.id, .int .i64 c.kind, .string c.key, .int .i64 c.blob, .int .i64 c.other, .int .i64 c.index, .int .i64 c.node, .int .i64 c.size, .int .u32 c.sum, .int .i64 c.k, .int .i64 c.m, va] #[.int .i64 d.id, .int .i64 d.kind, .string d.key, .int .i64 d.blob, .int .i64 d.other, .int .i64 d.index, .int .i64 d.node, .int .i64 d.size, .int .u32 d.sum, .int .i64 d.k, .int .i64 d.m, vb] T
  exact ⟨hB0, hz1, hz2, (hC 0).1, (hC 1).1, (hC 2).1, (hC 3).1, (hC 4).1, (hC 5).1, (hC 6).1, (hC 7).1, (hC 8).1, (hC 9).1, (hC 10).1, (hC 11).1, (hC 0).2, (hC 1).2, (hC 2).2, (hC 3).2, (hC 4).2, (hC 5).2, (hC 6).2, (hC 7).2, (hC 8).2, (hC 9).2, (hC 10).2, (hC 11).2⟩

set_option maxHeartbeats 1000000 in
set_option maxRecDepth 100000 in
theorem same_tt {w : World} {x y : Cd} {A B : Option Addr} {n n' a b : Nat} (hA : At w A (ints x.2)) (hB : At w B (ints y.2)) (hn : n = x.2.length) (hn' : n' = y.2.length) (hmax : x.2.length * 8 ≤ 140737488355328) (hx : SumOk x.1) (hy : SumOk y.1)
    (h1 : numsB x.1 y.1 = true) (h2 : keyB x.1 y.1 = true) (h3 : codeB x.1 y.1 = true) :
    Calls Try.prog 23 #[.agg #[.int .i64 x.1.id, .int .i64 x.1.kind, .string x.1.key, .int .i64 x.1.blob, .int .i64 x.1.other, .int .i64 x.1.index, .int .i64 x.1.node, .int .i64 x.1.size, .int .u32 x.1.sum, .int .i64 x.1.k, .int .i64 x.1.m, .slice A n a], .agg #[.int .i64 y.1.id, .int .i64 y.1.kind, .string y.1.key, .int .i64 y.1.blob, .int .i64 y.1.other, .int .i64 y.1.index, .int .i64 y.1.node, .int .i64 y.1.size, .int .u32 y.1.sum, .int .i64 y.1.k, .int .i64 y.1.m, .slice B n' b]] w (RetV w (.bool (sameB x y))) := by
  obtain ⟨c, l⟩ := x
  obtain ⟨d, k⟩ := y
  have HS := Lib.hid (by simp only [sameB, h1, h2, h3, Bool.true_and] : sameB (c, l) (d, k) = decide (l = k))
  have q1 : ∀ w, _ := fun w => eql_nums c d w
  have q2 : ∀ w, _ := fun w => eql_code c d w
  rw [h1] at q1
  rw [h3] at q2
  have q3 : (c.key.toList == d.key.toList) = true := h2
  clear h1 h2 h3
  have HN := Lib.hid hn
  have HN' := Lib.hid hn'
  clear hn hn'
  go_enter Try.func23, Try.ntmps23
  go_wp2_with fail
  have hS0 := Two.start w c d (.slice A n a) (.slice B n' b) 27
  generalize (w.alloc (.cells #[.int .i64 c.id, .int .i64 c.kind, .string c.key, .int .i64 c.blob, .int .i64 c.other, .int .i64 c.index, .int .i64 c.node, .int .i64 c.size, .int .u32 c.sum, .int .i64 c.k, .int .i64 c.m, .slice A n a] 27)).alloc (.cells #[.int .i64 d.id, .int .i64 d.kind, .string d.key, .int .i64 d.blob, .int .i64 d.other, .int .i64 d.index, .int .i64 d.node, .int .i64 d.size, .int .u32 d.sum, .int .i64 d.k, .int .i64 d.m, .slice B n' b] 27) = W0 at *
  have HS0 := Lib.hid hS0
  have tk1 : True := trivial
  have tk2 : True := trivial
  clear hS0
  go_region_held3 (fun w' => Below w.heap.size w w' ∧ w.heap.size < w'.heap.size ∧ w.heap.size + 1 < w'.heap.size ∧ w'.cell? ⟨w.heap.size, 0, none⟩ = some (.int .i64 c.id) ∧ w'.cell? ⟨w.heap.size, 1, none⟩ = some (.int .i64 c.kind) ∧ w'.cell? ⟨w.heap.size, 2, none⟩ = some (.string c.key) ∧ w'.cell? ⟨w.heap.size, 3, none⟩ = some (.int .i64 c.blob) ∧ w'.cell? ⟨w.heap.size, 4, none⟩ = some (.int .i64 c.other) ∧ w'.cell? ⟨w.heap.size, 5, none⟩ = some (.int .i64 c.index) ∧ w'.cell? ⟨w.heap.size, 6, none⟩ = some (.int .i64 c.node) ∧ w'.cell? ⟨w.heap.size, 7, none⟩ = some (.int .i64 c.size) ∧ w'.cell? ⟨w.heap.size, 8, none⟩ = some (.int .u32 c.sum) ∧ w'.cell? ⟨w.heap.size, 9, none⟩ = some (.int .i64 c.k) ∧ w'.cell? ⟨w.heap.size, 10, none⟩ = some (.int .i64 c.m) ∧ w'.cell? ⟨w.heap.size, 11, none⟩ = some (.slice A n a) ∧ w'.cell? ⟨w.heap.size + 1, 0, none⟩ = some (.int .i64 d.id) ∧ w'.cell? ⟨w.heap.size + 1, 1, none⟩ = some (.int .i64 d.kind) ∧ w'.cell? ⟨w.heap.size + 1, 2, none⟩ = some (.string d.key) ∧ w'.cell? ⟨w.heap.size + 1, 3, none⟩ = some (.int .i64 d.blob) ∧ w'.cell? ⟨w.heap.size + 1, 4, none⟩ = some (.int .i64 d.other) ∧ w'.cell? ⟨w.heap.size + 1, 5, none⟩ = some (.int .i64 d.index) ∧ w'.cell? ⟨w.heap.size + 1, 6, none⟩ = some (.int .i64 d.node) ∧ w'.cell? ⟨w.heap.size + 1, 7, none⟩ = some (.int .i64 d.size) ∧ w'.cell? ⟨w.heap.size + 1, 8, none⟩ = some (.int .u32 d.sum) ∧ w'.cell? ⟨w.heap.size + 1, 9, none⟩ = some (.int .i64 d.k) ∧ w'.cell? ⟨w.heap.size + 1, 10, none⟩ = some (.int .i64 d.m) ∧ w'.cell? ⟨w.heap.size + 1, 11, none⟩ = some (.slice B n' b))
    (first | assumption | exact HS0.out.step ((Below.refl _ _).drew) | exact Two.step (by assumption) (by assumption) | exact Two.step (by assumption) (belowN _))
    (first
      | (go_at_call 29; clear tk1; refine (nums_calls c _ hx).mono ?_; rintro e w' ⟨rfl, hb⟩)
      | (go_at_call 29; clear tk2; refine (nums_calls d _ hy).mono ?_; rintro e w' ⟨rfl, hb⟩)
      | (go_at_call 25; refine (iequal_calls (hA.below (And.left (by assumption))) (hB.below (And.left (by assumption))) HN.out HN'.out hmax).mono ?_; rintro e w' ⟨rfl, q, rfl⟩))
  go_wp2_with fail
  go_ret
  exact ⟨ret_bool HS.out.symm, And.left (by assumption)⟩

set_option maxHeartbeats 1000000 in
set_option maxRecDepth 100000 in
theorem same_tf {w : World} {x y : Cd} {A B : Option Addr} {n n' a b : Nat} (hA : At w A (ints x.2)) (hB : At w B (ints y.2)) (hn : n = x.2.length) (hn' : n' = y.2.length) (hmax : x.2.length * 8 ≤ 140737488355328) (hx : SumOk x.1) (hy : SumOk y.1)
    (h1 : numsB x.1 y.1 = true) (h2 : keyB x.1 y.1 = true) (h3 : codeB x.1 y.1 = false) :
    Calls Try.prog 23 #[.agg #[.int .i64 x.1.id, .int .i64 x.1.kind, .string x.1.key, .int .i64 x.1.blob, .int .i64 x.1.other, .int .i64 x.1.index, .int .i64 x.1.node, .int .i64 x.1.size, .int .u32 x.1.sum, .int .i64 x.1.k, .int .i64 x.1.m, .slice A n a], .agg #[.int .i64 y.1.id, .int .i64 y.1.kind, .string y.1.key, .int .i64 y.1.blob, .int .i64 y.1.other, .int .i64 y.1.index, .int .i64 y.1.node, .int .i64 y.1.size, .int .u32 y.1.sum, .int .i64 y.1.k, .int .i64 y.1.m, .slice B n' b]] w (RetV w (.bool (sameB x y))) := by
  obtain ⟨c, l⟩ := x
  obtain ⟨d, k⟩ := y
  have HS := Lib.hid (by simp only [sameB, h1, h2, h3, Bool.true_and, Bool.false_and] : sameB (c, l) (d, k) = false)
  have q1 : ∀ w, _ := fun w => eql_nums c d w
  have q2 : ∀ w, _ := fun w => eql_code c d w
  rw [h1] at q1
  rw [h3] at q2
  have q3 : (c.key.toList == d.key.toList) = true := h2
  clear h1 h2 h3
  have HN := Lib.hid hn
  have HN' := Lib.hid hn'
  clear hn hn'
  go_enter Try.func23, Try.ntmps23
  go_wp2_with fail
  have hS0 := Two.start w c d (.slice A n a) (.slice B n' b) 27
  generalize (w.alloc (.cells #[.int .i64 c.id, .int .i64 c.kind, .string c.key, .int .i64 c.blob, .int .i64 c.other, .int .i64 c.index, .int .i64 c.node, .int .i64 c.size, .int .u32 c.sum, .int .i64 c.k, .int .i64 c.m, .slice A n a] 27)).alloc (.cells #[.int .i64 d.id, .int .i64 d.kind, .string d.key, .int .i64 d.blob, .int .i64 d.other, .int .i64 d.index, .int .i64 d.node, .int .i64 d.size, .int .u32 d.sum, .int .i64 d.k, .int .i64 d.m, .slice B n' b] 27) = W0 at *
  have HS0 := Lib.hid hS0
  have tk1 : True := trivial
  have tk2 : True := trivial
  clear hS0
  refine wp_region_held_drew (S := (fun w' => Below w.heap.size w w' ∧ w.heap.size < w'.heap.size ∧ w.heap.size + 1 < w'.heap.size ∧ w'.cell? ⟨w.heap.size, 0, none⟩ = some (.int .i64 c.id) ∧ w'.cell? ⟨w.heap.size, 1, none⟩ = some (.int .i64 c.kind) ∧ w'.cell? ⟨w.heap.size, 2, none⟩ = some (.string c.key) ∧ w'.cell? ⟨w.heap.size, 3, none⟩ = some (.int .i64 c.blob) ∧ w'.cell? ⟨w.heap.size, 4, none⟩ = some (.int .i64 c.other) ∧ w'.cell? ⟨w.heap.size, 5, none⟩ = some (.int .i64 c.index) ∧ w'.cell? ⟨w.heap.size, 6, none⟩ = some (.int .i64 c.node) ∧ w'.cell? ⟨w.heap.size, 7, none⟩ = some (.int .i64 c.size) ∧ w'.cell? ⟨w.heap.size, 8, none⟩ = some (.int .u32 c.sum) ∧ w'.cell? ⟨w.heap.size, 9, none⟩ = some (.int .i64 c.k) ∧ w'.cell? ⟨w.heap.size, 10, none⟩ = some (.int .i64 c.m) ∧ w'.cell? ⟨w.heap.size, 11, none⟩ = some (.slice A n a) ∧ w'.cell? ⟨w.heap.size + 1, 0, none⟩ = some (.int .i64 d.id) ∧ w'.cell? ⟨w.heap.size + 1, 1, none⟩ = some (.int .i64 d.kind) ∧ w'.cell? ⟨w.heap.size + 1, 2, none⟩ = some (.string d.key) ∧ w'.cell? ⟨w.heap.size + 1, 3, none⟩ = some (.int .i64 d.blob) ∧ w'.cell? ⟨w.heap.size + 1, 4, none⟩ = some (.int .i64 d.other) ∧ w'.cell? ⟨w.heap.size + 1, 5, none⟩ = some (.int .i64 d.index) ∧ w'.cell? ⟨w.heap.size + 1, 6, none⟩ = some (.int .i64 d.node) ∧ w'.cell? ⟨w.heap.size + 1, 7, none⟩ = some (.int .i64 d.size) ∧ w'.cell? ⟨w.heap.size + 1, 8, none⟩ = some (.int .u32 d.sum) ∧ w'.cell? ⟨w.heap.size + 1, 9, none⟩ = some (.int .i64 d.k) ∧ w'.cell? ⟨w.heap.size + 1, 10, none⟩ = some (.int .i64 d.m) ∧ w'.cell? ⟨w.heap.size + 1, 11, none⟩ = some (.slice B n' b))) (by kernel_rfl) (HS0.out.step ((Below.refl _ _).drew)) (fun hHeld => ?_)
  refine wpAnyH_take (i := 0) (v := ?_) rfl (by kernel_rfl) (by kernel_rfl) (by kernel_rfl) (fun _ _ _ h => h) (Or.inl ⟨by rfl, ?_⟩) (by assumption) ?_
  rotate_left
  · intro w hSw
    (try dsimp only at hSw)
    go_simp
    all_goals (with_reducible rfl)
  try simp only [List.getElem_toArray, List.getElem_cons_succ, List.getElem_cons_zero, Act.put, List.setIfInBounds_toArray, List.set_cons_zero, List.set_cons_succ]
  refine wpAnyH_take (i := 1) (v := ?_) rfl (by kernel_rfl) (by kernel_rfl) (by kernel_rfl) (fun _ _ _ h => h) (Or.inl ⟨by rfl, ?_⟩) (by assumption) ?_
  rotate_left
  · intro w hSw
    (try dsimp only at hSw)
    go_simp
    all_goals (with_reducible rfl)
  try simp only [List.getElem_toArray, List.getElem_cons_succ, List.getElem_cons_zero, Act.put, List.setIfInBounds_toArray, List.set_cons_zero, List.set_cons_succ]
  refine wpAnyH_take (i := 3) (v := ?_) rfl (by kernel_rfl) (by kernel_rfl) (by kernel_rfl) (fun _ _ _ h => h) (Or.inl ⟨by rfl, ?_⟩) (by assumption) ?_
  rotate_left
  · intro w hSw
    (try dsimp only at hSw)
    go_simp
    all_goals (with_reducible rfl)
  try simp only [List.getElem_toArray, List.getElem_cons_succ, List.getElem_cons_zero, Act.put, List.setIfInBounds_toArray, List.set_cons_zero, List.set_cons_succ]
  refine wpAnyH_take (i := 4) (v := ?_) rfl (by kernel_rfl) (by kernel_rfl) (by kernel_rfl) (fun _ _ _ h => h) (Or.inl ⟨by rfl, ?_⟩) (by assumption) ?_
  rotate_left
  · intro w hSw
    (try dsimp only at hSw)
    go_simp
    all_goals (with_reducible rfl)
  try simp only [List.getElem_toArray, List.getElem_cons_succ, List.getElem_cons_zero, Act.put, List.setIfInBounds_toArray, List.set_cons_zero, List.set_cons_succ]
  refine wpAnyH_ready (rs := [2]) (by kernel_rfl) (by simp) ?_
  refine AllReadyH.cons rfl (fun K hK => ?_) AllReadyH.nil
  go_simp
  refine (nums_calls c _ hx).mono ?_; rintro e w' ⟨rfl, hb⟩
  go_wp2_with fail
  refine hK.out _ _ (Two.step (by assumption) hb) (fun hHeld => ?_)
  clear hK K
  try simp only [List.getElem_toArray, List.getElem_cons_succ, List.getElem_cons_zero, Act.put, List.setIfInBounds_toArray, List.set_cons_zero, List.set_cons_succ]
  refine wpAnyH_ready (rs := [5]) (by kernel_rfl) (by simp) ?_
  refine AllReadyH.cons rfl (fun K hK => ?_) AllReadyH.nil
  go_simp
  refine (nums_calls d _ hy).mono ?_; rintro e w' ⟨rfl, hb⟩
  go_wp2_with fail
  refine hK.out _ _ (Two.step (by assumption) hb) (fun hHeld => ?_)
  clear hK K
  try simp only [List.getElem_toArray, List.getElem_cons_succ, List.getElem_cons_zero, Act.put, List.setIfInBounds_toArray, List.set_cons_zero, List.set_cons_succ]
  refine wpAnyH_take (i := 6) (v := ?_) rfl (by kernel_rfl) (by kernel_rfl) (by kernel_rfl) (fun _ _ _ h => h) (Or.inl ⟨by rfl, ?_⟩) (by assumption) ?_
  rotate_left
  · intro w hSw
    (try dsimp only at hSw)
    go_simp
    all_goals (with_reducible rfl)
  try simp only [List.getElem_toArray, List.getElem_cons_succ, List.getElem_cons_zero, Act.put, List.setIfInBounds_toArray, List.set_cons_zero, List.set_cons_succ]
  refine wpAnyH_take (i := 7) (v := ?_) rfl (by kernel_rfl) (by kernel_rfl) (by kernel_rfl) (fun _ _ _ h => h) (Or.inl ⟨by rfl, ?_⟩) (by assumption) ?_
  rotate_left
  · intro w hSw
    (try dsimp only at hSw)
    go_simp
    all_goals (with_reducible rfl)
  try simp only [List.getElem_toArray, List.getElem_cons_succ, List.getElem_cons_zero, Act.put, List.setIfInBounds_toArray, List.set_cons_zero, List.set_cons_succ]
  refine wpAnyH_take (i := 8) (v := ?_) rfl (by kernel_rfl) (by kernel_rfl) (by kernel_rfl) (fun _ _ _ h => h) (Or.inl ⟨by rfl, ?_⟩) (by assumption) ?_
  rotate_left
  · intro w hSw
    (try dsimp only at hSw)
    go_simp
    all_goals (with_reducible rfl)
  try simp only [List.getElem_toArray, List.getElem_cons_succ, List.getElem_cons_zero, Act.put, List.setIfInBounds_toArray, List.set_cons_zero, List.set_cons_succ]
  refine wpAnyH_take (i := 9) (v := ?_) rfl (by kernel_rfl) (by kernel_rfl) (by kernel_rfl) (fun _ _ _ h => h) (Or.inl ⟨by rfl, ?_⟩) (by assumption) ?_
  rotate_left
  · intro w hSw
    (try dsimp only at hSw)
    go_simp
    all_goals (with_reducible rfl)
  try simp only [List.getElem_toArray, List.getElem_cons_succ, List.getElem_cons_zero, Act.put, List.setIfInBounds_toArray, List.set_cons_zero, List.set_cons_succ]
  refine wpAnyH_take (i := 10) (v := ?_) rfl (by kernel_rfl) (by kernel_rfl) (by kernel_rfl) (fun _ _ _ h => h) (Or.inl ⟨by rfl, ?_⟩) (by assumption) ?_
  rotate_left
  · intro w hSw
    (try dsimp only at hSw)
    go_simp
    all_goals (with_reducible rfl)
  try simp only [List.getElem_toArray, List.getElem_cons_succ, List.getElem_cons_zero, Act.put, List.setIfInBounds_toArray, List.set_cons_zero, List.set_cons_succ]
  refine wpAnyH_take (i := 11) (v := ?_) rfl (by kernel_rfl) (by kernel_rfl) (by kernel_rfl) (fun _ _ _ h => h) (Or.inl ⟨by rfl, ?_⟩) (by assumption) ?_
  rotate_left
  · intro w hSw
    (try dsimp only at hSw)
    go_simp
    all_goals (with_reducible rfl)
  try simp only [List.getElem_toArray, List.getElem_cons_succ, List.getElem_cons_zero, Act.put, List.setIfInBounds_toArray, List.set_cons_zero, List.set_cons_succ]
  refine wpAnyH_take (i := 12) (v := ?_) rfl (by kernel_rfl) (by kernel_rfl) (by kernel_rfl) (fun _ _ _ h => h) (Or.inl ⟨by rfl, ?_⟩) (by assumption) ?_
  rotate_left
  · intro w hSw
    (try dsimp only at hSw)
    go_simp
    all_goals (with_reducible rfl)
  try simp only [List.getElem_toArray, List.getElem_cons_succ, List.getElem_cons_zero, Act.put, List.setIfInBounds_toArray, List.set_cons_zero, List.set_cons_succ]
  refine wpAnyH_take (i := 13) (v := ?_) rfl (by kernel_rfl) (by kernel_rfl) (by kernel_rfl) (fun _ _ _ h => h) (Or.inl ⟨by rfl, ?_⟩) (by assumption) ?_
  rotate_left
  · intro w hSw
    (try dsimp only at hSw)
    go_simp
    all_goals (with_reducible rfl)
  try simp only [List.getElem_toArray, List.getElem_cons_succ, List.getElem_cons_zero, Act.put, List.setIfInBounds_toArray, List.set_cons_zero, List.set_cons_succ]
  refine wpAnyH_take (i := 14) (v := ?_) rfl (by kernel_rfl) (by kernel_rfl) (by kernel_rfl) (fun _ _ _ h => h) (Or.inl ⟨by rfl, ?_⟩) (by assumption) ?_
  rotate_left
  · intro w hSw
    (try dsimp only at hSw)
    go_simp
    all_goals (with_reducible rfl)
  try simp only [List.getElem_toArray, List.getElem_cons_succ, List.getElem_cons_zero, Act.put, List.setIfInBounds_toArray, List.set_cons_zero, List.set_cons_succ]
  refine wpAnyH_take (i := 15) (v := ?_) rfl (by kernel_rfl) (by kernel_rfl) (by kernel_rfl) (fun _ _ _ h => h) (Or.inl ⟨by rfl, ?_⟩) (by assumption) ?_
  rotate_left
  · intro w hSw
    (try dsimp only at hSw)
    go_simp
    all_goals (with_reducible rfl)
  try simp only [List.getElem_toArray, List.getElem_cons_succ, List.getElem_cons_zero, Act.put, List.setIfInBounds_toArray, List.set_cons_zero, List.set_cons_succ]
  refine wpAnyH_take (i := 16) (v := ?_) rfl (by kernel_rfl) (by kernel_rfl) (by kernel_rfl) (fun _ _ _ h => h) (Or.inl ⟨by rfl, ?_⟩) (by assumption) ?_
  rotate_left
  · intro w hSw
    (try dsimp only at hSw)
    go_simp
    all_goals (with_reducible rfl)
  try simp only [List.getElem_toArray, List.getElem_cons_succ, List.getElem_cons_zero, Act.put, List.setIfInBounds_toArray, List.set_cons_zero, List.set_cons_succ]
  refine wpAnyH_take (i := 17) (v := ?_) rfl (by kernel_rfl) (by kernel_rfl) (by kernel_rfl) (fun _ _ _ h => h) (Or.inl ⟨by rfl, ?_⟩) (by assumption) ?_
  rotate_left
  · intro w hSw
    (try dsimp only at hSw)
    go_simp
    all_goals (with_reducible rfl)
  try simp only [List.getElem_toArray, List.getElem_cons_succ, List.getElem_cons_zero, Act.put, List.setIfInBounds_toArray, List.set_cons_zero, List.set_cons_succ]
  refine wpAnyH_take (i := 18) (v := ?_) rfl (by kernel_rfl) (by kernel_rfl) (by kernel_rfl) (fun _ _ _ h => h) (Or.inl ⟨by rfl, ?_⟩) (by assumption) ?_
  rotate_left
  · intro w hSw
    (try dsimp only at hSw)
    go_simp
    all_goals (with_reducible rfl)
  try simp only [List.getElem_toArray, List.getElem_cons_succ, List.getElem_cons_zero, Act.put, List.setIfInBounds_toArray, List.set_cons_zero, List.set_cons_succ]
  refine wpAnyH_take (i := 19) (v := ?_) rfl (by kernel_rfl) (by kernel_rfl) (by kernel_rfl) (fun _ _ _ h => h) (Or.inl ⟨by rfl, ?_⟩) (by assumption) ?_
  rotate_left
  · intro w hSw
    (try dsimp only at hSw)
    go_simp
    all_goals (with_reducible rfl)
  try simp only [List.getElem_toArray, List.getElem_cons_succ, List.getElem_cons_zero, Act.put, List.setIfInBounds_toArray, List.set_cons_zero, List.set_cons_succ]
  refine wpAnyH_take (i := 20) (v := ?_) rfl (by kernel_rfl) (by kernel_rfl) (by kernel_rfl) (fun _ _ _ h => h) (Or.inl ⟨by rfl, ?_⟩) (by assumption) ?_
  rotate_left
  · intro w hSw
    (try dsimp only at hSw)
    go_simp
    all_goals (with_reducible rfl)
  try simp only [List.getElem_toArray, List.getElem_cons_succ, List.getElem_cons_zero, Act.put, List.setIfInBounds_toArray, List.set_cons_zero, List.set_cons_succ]
  refine wpAnyH_take (i := 21) (v := ?_) rfl (by kernel_rfl) (by kernel_rfl) (by kernel_rfl) (fun _ _ _ h => h) (Or.inl ⟨by rfl, ?_⟩) (by assumption) ?_
  rotate_left
  · intro w hSw
    (try dsimp only at hSw)
    go_simp
    all_goals (with_reducible rfl)
  try simp only [List.getElem_toArray, List.getElem_cons_succ, List.getElem_cons_zero, Act.put, List.setIfInBounds_toArray, List.set_cons_zero, List.set_cons_succ]
  refine wpAnyH_take (i := 22) (v := undef) rfl (by kernel_rfl) (by kernel_rfl) (by kernel_rfl) (fun _ _ _ h => h) (Or.inr ⟨by rfl, rfl⟩) (by assumption) ?_
  try simp only [List.getElem_toArray, List.getElem_cons_succ, List.getElem_cons_zero, Act.put, List.setIfInBounds_toArray, List.set_cons_zero, List.set_cons_succ]
  refine wpAnyH_take (i := 23) (v := undef) rfl (by kernel_rfl) (by kernel_rfl) (by kernel_rfl) (fun _ _ _ h => h) (Or.inr ⟨by rfl, rfl⟩) (by assumption) ?_
  try simp only [List.getElem_toArray, List.getElem_cons_succ, List.getElem_cons_zero, Act.put, List.setIfInBounds_toArray, List.set_cons_zero, List.set_cons_succ]
  refine wpAnyH_take (i := 24) (v := undef) rfl (by kernel_rfl) (by kernel_rfl) (by kernel_rfl) (fun _ _ _ h => h) (Or.inr ⟨by rfl, rfl⟩) (by assumption) ?_
  try simp only [List.getElem_toArray, List.getElem_cons_succ, List.getElem_cons_zero, Act.put, List.setIfInBounds_toArray, List.set_cons_zero, List.set_cons_succ]
  refine wpAnyH_take (i := 25) (v := undef) rfl (by kernel_rfl) (by kernel_rfl) (by kernel_rfl) (fun _ _ _ h => h) (Or.inr ⟨by rfl, rfl⟩) (by assumption) ?_
  try simp only [List.getElem_toArray, List.getElem_cons_succ, List.getElem_cons_zero, Act.put, List.setIfInBounds_toArray, List.set_cons_zero, List.set_cons_succ]
  refine wpAnyH_take (i := 26) (v := undef) rfl (by kernel_rfl) (by kernel_rfl) (by kernel_rfl) (fun _ _ _ h => h) (Or.inr ⟨by rfl, rfl⟩) (by assumption) ?_
  try simp only [List.getElem_toArray, List.getElem_cons_succ, List.getElem_cons_zero, Act.put, List.setIfInBounds_toArray, List.set_cons_zero, List.set_cons_succ]
  refine wpAnyH_take (i := 27) (v := ?_) rfl (by kernel_rfl) (by kernel_rfl) (by kernel_rfl) (fun _ _ _ h => h) (Or.inl ⟨by rfl, ?_⟩) (by assumption) ?_
  rotate_left
  · intro w hSw
    (try dsimp only at hSw)
    go_simp
    all_goals (with_reducible rfl)
  try simp only [List.getElem_toArray, List.getElem_cons_succ, List.getElem_cons_zero, Act.put, List.setIfInBounds_toArray, List.set_cons_zero, List.set_cons_succ]
  refine wpAnyH_take (i := 28) (v := ?_) rfl (by kernel_rfl) (by kernel_rfl) (by kernel_rfl) (fun _ _ _ h => h) (Or.inl ⟨by rfl, ?_⟩) (by assumption) ?_
  rotate_left
  · intro w hSw
    (try dsimp only at hSw)
    go_simp
    all_goals (with_reducible rfl)
  try simp only [List.getElem_toArray, List.getElem_cons_succ, List.getElem_cons_zero, Act.put, List.setIfInBounds_toArray, List.set_cons_zero, List.set_cons_succ]
  refine wpAnyH_done (by kernel_rfl) ?_ _
  go_wp2_with fail
  go_ret
  exact ⟨ret_bool HS.out.symm, And.left (by assumption)⟩

set_option maxHeartbeats 1000000 in
set_option maxRecDepth 100000 in
theorem same_f {w : World} {x y : Cd} {A B : Option Addr} {n n' a b : Nat} (hA : At w A (ints x.2)) (hB : At w B (ints y.2)) (hn : n = x.2.length) (hn' : n' = y.2.length) (hmax : x.2.length * 8 ≤ 140737488355328) (hx : SumOk x.1) (hy : SumOk y.1)
    (h1 : numsB x.1 y.1 = true) (h2 : keyB x.1 y.1 = false) :
    Calls Try.prog 23 #[.agg #[.int .i64 x.1.id, .int .i64 x.1.kind, .string x.1.key, .int .i64 x.1.blob, .int .i64 x.1.other, .int .i64 x.1.index, .int .i64 x.1.node, .int .i64 x.1.size, .int .u32 x.1.sum, .int .i64 x.1.k, .int .i64 x.1.m, .slice A n a], .agg #[.int .i64 y.1.id, .int .i64 y.1.kind, .string y.1.key, .int .i64 y.1.blob, .int .i64 y.1.other, .int .i64 y.1.index, .int .i64 y.1.node, .int .i64 y.1.size, .int .u32 y.1.sum, .int .i64 y.1.k, .int .i64 y.1.m, .slice B n' b]] w (RetV w (.bool (sameB x y))) := by
  obtain ⟨c, l⟩ := x
  obtain ⟨d, k⟩ := y
  have HS := Lib.hid (by simp only [sameB, h1, h2, Bool.true_and, Bool.false_and] : sameB (c, l) (d, k) = false)
  have q1 : ∀ w, _ := fun w => eql_nums c d w
  have q2 : ∀ w, _ := fun w => eql_code c d w
  rw [h1] at q1
  have q3 : (c.key.toList == d.key.toList) = false := h2
  clear h1 h2
  have HN := Lib.hid hn
  have HN' := Lib.hid hn'
  clear hn hn'
  go_enter Try.func23, Try.ntmps23
  go_wp2_with fail
  have hS0 := Two.start w c d (.slice A n a) (.slice B n' b) 27
  generalize (w.alloc (.cells #[.int .i64 c.id, .int .i64 c.kind, .string c.key, .int .i64 c.blob, .int .i64 c.other, .int .i64 c.index, .int .i64 c.node, .int .i64 c.size, .int .u32 c.sum, .int .i64 c.k, .int .i64 c.m, .slice A n a] 27)).alloc (.cells #[.int .i64 d.id, .int .i64 d.kind, .string d.key, .int .i64 d.blob, .int .i64 d.other, .int .i64 d.index, .int .i64 d.node, .int .i64 d.size, .int .u32 d.sum, .int .i64 d.k, .int .i64 d.m, .slice B n' b] 27) = W0 at *
  have HS0 := Lib.hid hS0
  have tk1 : True := trivial
  have tk2 : True := trivial
  clear hS0
  refine wp_region_held_drew (S := (fun w' => Below w.heap.size w w' ∧ w.heap.size < w'.heap.size ∧ w.heap.size + 1 < w'.heap.size ∧ w'.cell? ⟨w.heap.size, 0, none⟩ = some (.int .i64 c.id) ∧ w'.cell? ⟨w.heap.size, 1, none⟩ = some (.int .i64 c.kind) ∧ w'.cell? ⟨w.heap.size, 2, none⟩ = some (.string c.key) ∧ w'.cell? ⟨w.heap.size, 3, none⟩ = some (.int .i64 c.blob) ∧ w'.cell? ⟨w.heap.size, 4, none⟩ = some (.int .i64 c.other) ∧ w'.cell? ⟨w.heap.size, 5, none⟩ = some (.int .i64 c.index) ∧ w'.cell? ⟨w.heap.size, 6, none⟩ = some (.int .i64 c.node) ∧ w'.cell? ⟨w.heap.size, 7, none⟩ = some (.int .i64 c.size) ∧ w'.cell? ⟨w.heap.size, 8, none⟩ = some (.int .u32 c.sum) ∧ w'.cell? ⟨w.heap.size, 9, none⟩ = some (.int .i64 c.k) ∧ w'.cell? ⟨w.heap.size, 10, none⟩ = some (.int .i64 c.m) ∧ w'.cell? ⟨w.heap.size, 11, none⟩ = some (.slice A n a) ∧ w'.cell? ⟨w.heap.size + 1, 0, none⟩ = some (.int .i64 d.id) ∧ w'.cell? ⟨w.heap.size + 1, 1, none⟩ = some (.int .i64 d.kind) ∧ w'.cell? ⟨w.heap.size + 1, 2, none⟩ = some (.string d.key) ∧ w'.cell? ⟨w.heap.size + 1, 3, none⟩ = some (.int .i64 d.blob) ∧ w'.cell? ⟨w.heap.size + 1, 4, none⟩ = some (.int .i64 d.other) ∧ w'.cell? ⟨w.heap.size + 1, 5, none⟩ = some (.int .i64 d.index) ∧ w'.cell? ⟨w.heap.size + 1, 6, none⟩ = some (.int .i64 d.node) ∧ w'.cell? ⟨w.heap.size + 1, 7, none⟩ = some (.int .i64 d.size) ∧ w'.cell? ⟨w.heap.size + 1, 8, none⟩ = some (.int .u32 d.sum) ∧ w'.cell? ⟨w.heap.size + 1, 9, none⟩ = some (.int .i64 d.k) ∧ w'.cell? ⟨w.heap.size + 1, 10, none⟩ = some (.int .i64 d.m) ∧ w'.cell? ⟨w.heap.size + 1, 11, none⟩ = some (.slice B n' b))) (by kernel_rfl) (HS0.out.step ((Below.refl _ _).drew)) (fun hHeld => ?_)
  refine wpAnyH_take (i := 0) (v := ?_) rfl (by kernel_rfl) (by kernel_rfl) (by kernel_rfl) (fun _ _ _ h => h) (Or.inl ⟨by rfl, ?_⟩) (by assumption) ?_
  rotate_left
  · intro w hSw
    (try dsimp only at hSw)
    go_simp
    all_goals (with_reducible rfl)
  try simp only [List.getElem_toArray, List.getElem_cons_succ, List.getElem_cons_zero, Act.put, List.setIfInBounds_toArray, List.set_cons_zero, List.set_cons_succ]
  refine wpAnyH_take (i := 1) (v := ?_) rfl (by kernel_rfl) (by kernel_rfl) (by kernel_rfl) (fun _ _ _ h => h) (Or.inl ⟨by rfl, ?_⟩) (by assumption) ?_
  rotate_left
  · intro w hSw
    (try dsimp only at hSw)
    go_simp
    all_goals (with_reducible rfl)
  try simp only [List.getElem_toArray, List.getElem_cons_succ, List.getElem_cons_zero, Act.put, List.setIfInBounds_toArray, List.set_cons_zero, List.set_cons_succ]
  refine wpAnyH_take (i := 3) (v := ?_) rfl (by kernel_rfl) (by kernel_rfl) (by kernel_rfl) (fun _ _ _ h => h) (Or.inl ⟨by rfl, ?_⟩) (by assumption) ?_
  rotate_left
  · intro w hSw
    (try dsimp only at hSw)
    go_simp
    all_goals (with_reducible rfl)
  try simp only [List.getElem_toArray, List.getElem_cons_succ, List.getElem_cons_zero, Act.put, List.setIfInBounds_toArray, List.set_cons_zero, List.set_cons_succ]
  refine wpAnyH_take (i := 4) (v := ?_) rfl (by kernel_rfl) (by kernel_rfl) (by kernel_rfl) (fun _ _ _ h => h) (Or.inl ⟨by rfl, ?_⟩) (by assumption) ?_
  rotate_left
  · intro w hSw
    (try dsimp only at hSw)
    go_simp
    all_goals (with_reducible rfl)
  try simp only [List.getElem_toArray, List.getElem_cons_succ, List.getElem_cons_zero, Act.put, List.setIfInBounds_toArray, List.set_cons_zero, List.set_cons_succ]
  refine wpAnyH_ready (rs := [2]) (by kernel_rfl) (by simp) ?_
  refine AllReadyH.cons rfl (fun K hK => ?_) AllReadyH.nil
  go_simp
  refine (nums_calls c _ hx).mono ?_; rintro e w' ⟨rfl, hb⟩
  go_wp2_with fail
  refine hK.out _ _ (Two.step (by assumption) hb) (fun hHeld => ?_)
  clear hK K
  try simp only [List.getElem_toArray, List.getElem_cons_succ, List.getElem_cons_zero, Act.put, List.setIfInBounds_toArray, List.set_cons_zero, List.set_cons_succ]
  refine wpAnyH_ready (rs := [5]) (by kernel_rfl) (by simp) ?_
  refine AllReadyH.cons rfl (fun K hK => ?_) AllReadyH.nil
  go_simp
  refine (nums_calls d _ hy).mono ?_; rintro e w' ⟨rfl, hb⟩
  go_wp2_with fail
  refine hK.out _ _ (Two.step (by assumption) hb) (fun hHeld => ?_)
  clear hK K
  try simp only [List.getElem_toArray, List.getElem_cons_succ, List.getElem_cons_zero, Act.put, List.setIfInBounds_toArray, List.set_cons_zero, List.set_cons_succ]
  refine wpAnyH_take (i := 6) (v := ?_) rfl (by kernel_rfl) (by kernel_rfl) (by kernel_rfl) (fun _ _ _ h => h) (Or.inl ⟨by rfl, ?_⟩) (by assumption) ?_
  rotate_left
  · intro w hSw
    (try dsimp only at hSw)
    go_simp
    all_goals (with_reducible rfl)
  try simp only [List.getElem_toArray, List.getElem_cons_succ, List.getElem_cons_zero, Act.put, List.setIfInBounds_toArray, List.set_cons_zero, List.set_cons_succ]
  refine wpAnyH_take (i := 7) (v := ?_) rfl (by kernel_rfl) (by kernel_rfl) (by kernel_rfl) (fun _ _ _ h => h) (Or.inl ⟨by rfl, ?_⟩) (by assumption) ?_
  rotate_left
  · intro w hSw
    (try dsimp only at hSw)
    go_simp
    all_goals (with_reducible rfl)
  try simp only [List.getElem_toArray, List.getElem_cons_succ, List.getElem_cons_zero, Act.put, List.setIfInBounds_toArray, List.set_cons_zero, List.set_cons_succ]
  refine wpAnyH_take (i := 8) (v := ?_) rfl (by kernel_rfl) (by kernel_rfl) (by kernel_rfl) (fun _ _ _ h => h) (Or.inl ⟨by rfl, ?_⟩) (by assumption) ?_
  rotate_left
  · intro w hSw
    (try dsimp only at hSw)
    go_simp
    all_goals (with_reducible rfl)
  try simp only [List.getElem_toArray, List.getElem_cons_succ, List.getElem_cons_zero, Act.put, List.setIfInBounds_toArray, List.set_cons_zero, List.set_cons_succ]
  refine wpAnyH_take (i := 9) (v := ?_) rfl (by kernel_rfl) (by kernel_rfl) (by kernel_rfl) (fun _ _ _ h => h) (Or.inl ⟨by rfl, ?_⟩) (by assumption) ?_
  rotate_left
  · intro w hSw
    (try dsimp only at hSw)
    go_simp
    all_goals (with_reducible rfl)
  try simp only [List.getElem_toArray, List.getElem_cons_succ, List.getElem_cons_zero, Act.put, List.setIfInBounds_toArray, List.set_cons_zero, List.set_cons_succ]
  refine wpAnyH_take (i := 10) (v := ?_) rfl (by kernel_rfl) (by kernel_rfl) (by kernel_rfl) (fun _ _ _ h => h) (Or.inl ⟨by rfl, ?_⟩) (by assumption) ?_
  rotate_left
  · intro w hSw
    (try dsimp only at hSw)
    go_simp
    all_goals (with_reducible rfl)
  try simp only [List.getElem_toArray, List.getElem_cons_succ, List.getElem_cons_zero, Act.put, List.setIfInBounds_toArray, List.set_cons_zero, List.set_cons_succ]
  refine wpAnyH_take (i := 11) (v := ?_) rfl (by kernel_rfl) (by kernel_rfl) (by kernel_rfl) (fun _ _ _ h => h) (Or.inl ⟨by rfl, ?_⟩) (by assumption) ?_
  rotate_left
  · intro w hSw
    (try dsimp only at hSw)
    go_simp
    all_goals (with_reducible rfl)
  try simp only [List.getElem_toArray, List.getElem_cons_succ, List.getElem_cons_zero, Act.put, List.setIfInBounds_toArray, List.set_cons_zero, List.set_cons_succ]
  refine wpAnyH_take (i := 12) (v := ?_) rfl (by kernel_rfl) (by kernel_rfl) (by kernel_rfl) (fun _ _ _ h => h) (Or.inl ⟨by rfl, ?_⟩) (by assumption) ?_
  rotate_left
  · intro w hSw
    (try dsimp only at hSw)
    go_simp
    all_goals (with_reducible rfl)
  try simp only [List.getElem_toArray, List.getElem_cons_succ, List.getElem_cons_zero, Act.put, List.setIfInBounds_toArray, List.set_cons_zero, List.set_cons_succ]
  refine wpAnyH_take (i := 13) (v := ?_) rfl (by kernel_rfl) (by kernel_rfl) (by kernel_rfl) (fun _ _ _ h => h) (Or.inl ⟨by rfl, ?_⟩) (by assumption) ?_
  rotate_left
  · intro w hSw
    (try dsimp only at hSw)
    go_simp
    all_goals (with_reducible rfl)
  try simp only [List.getElem_toArray, List.getElem_cons_succ, List.getElem_cons_zero, Act.put, List.setIfInBounds_toArray, List.set_cons_zero, List.set_cons_succ]
  refine wpAnyH_take (i := 14) (v := ?_) rfl (by kernel_rfl) (by kernel_rfl) (by kernel_rfl) (fun _ _ _ h => h) (Or.inl ⟨by rfl, ?_⟩) (by assumption) ?_
  rotate_left
  · intro w hSw
    (try dsimp only at hSw)
    go_simp
    all_goals (with_reducible rfl)
  try simp only [List.getElem_toArray, List.getElem_cons_succ, List.getElem_cons_zero, Act.put, List.setIfInBounds_toArray, List.set_cons_zero, List.set_cons_succ]
  refine wpAnyH_take (i := 15) (v := undef) rfl (by kernel_rfl) (by kernel_rfl) (by kernel_rfl) (fun _ _ _ h => h) (Or.inr ⟨by rfl, rfl⟩) (by assumption) ?_
  try simp only [List.getElem_toArray, List.getElem_cons_succ, List.getElem_cons_zero, Act.put, List.setIfInBounds_toArray, List.set_cons_zero, List.set_cons_succ]
  refine wpAnyH_take (i := 16) (v := undef) rfl (by kernel_rfl) (by kernel_rfl) (by kernel_rfl) (fun _ _ _ h => h) (Or.inr ⟨by rfl, rfl⟩) (by assumption) ?_
  try simp only [List.getElem_toArray, List.getElem_cons_succ, List.getElem_cons_zero, Act.put, List.setIfInBounds_toArray, List.set_cons_zero, List.set_cons_succ]
  refine wpAnyH_take (i := 17) (v := undef) rfl (by kernel_rfl) (by kernel_rfl) (by kernel_rfl) (fun _ _ _ h => h) (Or.inr ⟨by rfl, rfl⟩) (by assumption) ?_
  try simp only [List.getElem_toArray, List.getElem_cons_succ, List.getElem_cons_zero, Act.put, List.setIfInBounds_toArray, List.set_cons_zero, List.set_cons_succ]
  refine wpAnyH_take (i := 18) (v := undef) rfl (by kernel_rfl) (by kernel_rfl) (by kernel_rfl) (fun _ _ _ h => h) (Or.inr ⟨by rfl, rfl⟩) (by assumption) ?_
  try simp only [List.getElem_toArray, List.getElem_cons_succ, List.getElem_cons_zero, Act.put, List.setIfInBounds_toArray, List.set_cons_zero, List.set_cons_succ]
  refine wpAnyH_take (i := 19) (v := undef) rfl (by kernel_rfl) (by kernel_rfl) (by kernel_rfl) (fun _ _ _ h => h) (Or.inr ⟨by rfl, rfl⟩) (by assumption) ?_
  try simp only [List.getElem_toArray, List.getElem_cons_succ, List.getElem_cons_zero, Act.put, List.setIfInBounds_toArray, List.set_cons_zero, List.set_cons_succ]
  refine wpAnyH_take (i := 20) (v := ?_) rfl (by kernel_rfl) (by kernel_rfl) (by kernel_rfl) (fun _ _ _ h => h) (Or.inl ⟨by rfl, ?_⟩) (by assumption) ?_
  rotate_left
  · intro w hSw
    (try dsimp only at hSw)
    go_simp
    all_goals (with_reducible rfl)
  try simp only [List.getElem_toArray, List.getElem_cons_succ, List.getElem_cons_zero, Act.put, List.setIfInBounds_toArray, List.set_cons_zero, List.set_cons_succ]
  refine wpAnyH_take (i := 21) (v := ?_) rfl (by kernel_rfl) (by kernel_rfl) (by kernel_rfl) (fun _ _ _ h => h) (Or.inl ⟨by rfl, ?_⟩) (by assumption) ?_
  rotate_left
  · intro w hSw
    (try dsimp only at hSw)
    go_simp
    all_goals (with_reducible rfl)
  try simp only [List.getElem_toArray, List.getElem_cons_succ, List.getElem_cons_zero, Act.put, List.setIfInBounds_toArray, List.set_cons_zero, List.set_cons_succ]
  refine wpAnyH_take (i := 22) (v := undef) rfl (by kernel_rfl) (by kernel_rfl) (by kernel_rfl) (fun _ _ _ h => h) (Or.inr ⟨by rfl, rfl⟩) (by assumption) ?_
  try simp only [List.getElem_toArray, List.getElem_cons_succ, List.getElem_cons_zero, Act.put, List.setIfInBounds_toArray, List.set_cons_zero, List.set_cons_succ]
  refine wpAnyH_take (i := 23) (v := undef) rfl (by kernel_rfl) (by kernel_rfl) (by kernel_rfl) (fun _ _ _ h => h) (Or.inr ⟨by rfl, rfl⟩) (by assumption) ?_
  try simp only [List.getElem_toArray, List.getElem_cons_succ, List.getElem_cons_zero, Act.put, List.setIfInBounds_toArray, List.set_cons_zero, List.set_cons_succ]
  refine wpAnyH_take (i := 24) (v := undef) rfl (by kernel_rfl) (by kernel_rfl) (by kernel_rfl) (fun _ _ _ h => h) (Or.inr ⟨by rfl, rfl⟩) (by assumption) ?_
  try simp only [List.getElem_toArray, List.getElem_cons_succ, List.getElem_cons_zero, Act.put, List.setIfInBounds_toArray, List.set_cons_zero, List.set_cons_succ]
  refine wpAnyH_take (i := 25) (v := undef) rfl (by kernel_rfl) (by kernel_rfl) (by kernel_rfl) (fun _ _ _ h => h) (Or.inr ⟨by rfl, rfl⟩) (by assumption) ?_
  try simp only [List.getElem_toArray, List.getElem_cons_succ, List.getElem_cons_zero, Act.put, List.setIfInBounds_toArray, List.set_cons_zero, List.set_cons_succ]
  refine wpAnyH_take (i := 26) (v := undef) rfl (by kernel_rfl) (by kernel_rfl) (by kernel_rfl) (fun _ _ _ h => h) (Or.inr ⟨by rfl, rfl⟩) (by assumption) ?_
  try simp only [List.getElem_toArray, List.getElem_cons_succ, List.getElem_cons_zero, Act.put, List.setIfInBounds_toArray, List.set_cons_zero, List.set_cons_succ]
  refine wpAnyH_take (i := 27) (v := ?_) rfl (by kernel_rfl) (by kernel_rfl) (by kernel_rfl) (fun _ _ _ h => h) (Or.inl ⟨by rfl, ?_⟩) (by assumption) ?_
  rotate_left
  · intro w hSw
    (try dsimp only at hSw)
    go_simp
    all_goals (with_reducible rfl)
  try simp only [List.getElem_toArray, List.getElem_cons_succ, List.getElem_cons_zero, Act.put, List.setIfInBounds_toArray, List.set_cons_zero, List.set_cons_succ]
  refine wpAnyH_take (i := 28) (v := ?_) rfl (by kernel_rfl) (by kernel_rfl) (by kernel_rfl) (fun _ _ _ h => h) (Or.inl ⟨by rfl, ?_⟩) (by assumption) ?_
  rotate_left
  · intro w hSw
    (try dsimp only at hSw)
    go_simp
    all_goals (with_reducible rfl)
  try simp only [List.getElem_toArray, List.getElem_cons_succ, List.getElem_cons_zero, Act.put, List.setIfInBounds_toArray, List.set_cons_zero, List.set_cons_succ]
  refine wpAnyH_done (by kernel_rfl) ?_ _
  go_wp2_with fail
  go_ret
  exact ⟨ret_bool HS.out.symm, And.left (by assumption)⟩

set_option maxHeartbeats 1000000 in
set_option maxRecDepth 100000 in
theorem same_n {w : World} {x y : Cd} {A B : Option Addr} {n n' a b : Nat} (hA : At w A (ints x.2)) (hB : At w B (ints y.2)) (hn : n = x.2.length) (hn' : n' = y.2.length) (hmax : x.2.length * 8 ≤ 140737488355328) (hx : SumOk x.1) (hy : SumOk y.1)
    (h1 : numsB x.1 y.1 = false) :
    Calls Try.prog 23 #[.agg #[.int .i64 x.1.id, .int .i64 x.1.kind, .string x.1.key, .int .i64 x.1.blob, .int .i64 x.1.other, .int .i64 x.1.index, .int .i64 x.1.node, .int .i64 x.1.size, .int .u32 x.1.sum, .int .i64 x.1.k, .int .i64 x.1.m, .slice A n a], .agg #[.int .i64 y.1.id, .int .i64 y.1.kind, .string y.1.key, .int .i64 y.1.blob, .int .i64 y.1.other, .int .i64 y.1.index, .int .i64 y.1.node, .int .i64 y.1.size, .int .u32 y.1.sum, .int .i64 y.1.k, .int .i64 y.1.m, .slice B n' b]] w (RetV w (.bool (sameB x y))) := by
  obtain ⟨c, l⟩ := x
  obtain ⟨d, k⟩ := y
  have HS := Lib.hid (by simp only [sameB, h1, Bool.false_and] : sameB (c, l) (d, k) = false)
  have q1 : ∀ w, _ := fun w => eql_nums c d w
  have q2 : ∀ w, _ := fun w => eql_code c d w
  rw [h1] at q1
  clear h1
  have HN := Lib.hid hn
  have HN' := Lib.hid hn'
  clear hn hn'
  go_enter Try.func23, Try.ntmps23
  go_wp2_with fail
  have hS0 := Two.start w c d (.slice A n a) (.slice B n' b) 27
  generalize (w.alloc (.cells #[.int .i64 c.id, .int .i64 c.kind, .string c.key, .int .i64 c.blob, .int .i64 c.other, .int .i64 c.index, .int .i64 c.node, .int .i64 c.size, .int .u32 c.sum, .int .i64 c.k, .int .i64 c.m, .slice A n a] 27)).alloc (.cells #[.int .i64 d.id, .int .i64 d.kind, .string d.key, .int .i64 d.blob, .int .i64 d.other, .int .i64 d.index, .int .i64 d.node, .int .i64 d.size, .int .u32 d.sum, .int .i64 d.k, .int .i64 d.m, .slice B n' b] 27) = W0 at *
  have HS0 := Lib.hid hS0
  have tk1 : True := trivial
  have tk2 : True := trivial
  clear hS0
  refine wp_region_held_drew (S := (fun w' => Below w.heap.size w w' ∧ w.heap.size < w'.heap.size ∧ w.heap.size + 1 < w'.heap.size ∧ w'.cell? ⟨w.heap.size, 0, none⟩ = some (.int .i64 c.id) ∧ w'.cell? ⟨w.heap.size, 1, none⟩ = some (.int .i64 c.kind) ∧ w'.cell? ⟨w.heap.size, 2, none⟩ = some (.string c.key) ∧ w'.cell? ⟨w.heap.size, 3, none⟩ = some (.int .i64 c.blob) ∧ w'.cell? ⟨w.heap.size, 4, none⟩ = some (.int .i64 c.other) ∧ w'.cell? ⟨w.heap.size, 5, none⟩ = some (.int .i64 c.index) ∧ w'.cell? ⟨w.heap.size, 6, none⟩ = some (.int .i64 c.node) ∧ w'.cell? ⟨w.heap.size, 7, none⟩ = some (.int .i64 c.size) ∧ w'.cell? ⟨w.heap.size, 8, none⟩ = some (.int .u32 c.sum) ∧ w'.cell? ⟨w.heap.size, 9, none⟩ = some (.int .i64 c.k) ∧ w'.cell? ⟨w.heap.size, 10, none⟩ = some (.int .i64 c.m) ∧ w'.cell? ⟨w.heap.size, 11, none⟩ = some (.slice A n a) ∧ w'.cell? ⟨w.heap.size + 1, 0, none⟩ = some (.int .i64 d.id) ∧ w'.cell? ⟨w.heap.size + 1, 1, none⟩ = some (.int .i64 d.kind) ∧ w'.cell? ⟨w.heap.size + 1, 2, none⟩ = some (.string d.key) ∧ w'.cell? ⟨w.heap.size + 1, 3, none⟩ = some (.int .i64 d.blob) ∧ w'.cell? ⟨w.heap.size + 1, 4, none⟩ = some (.int .i64 d.other) ∧ w'.cell? ⟨w.heap.size + 1, 5, none⟩ = some (.int .i64 d.index) ∧ w'.cell? ⟨w.heap.size + 1, 6, none⟩ = some (.int .i64 d.node) ∧ w'.cell? ⟨w.heap.size + 1, 7, none⟩ = some (.int .i64 d.size) ∧ w'.cell? ⟨w.heap.size + 1, 8, none⟩ = some (.int .u32 d.sum) ∧ w'.cell? ⟨w.heap.size + 1, 9, none⟩ = some (.int .i64 d.k) ∧ w'.cell? ⟨w.heap.size + 1, 10, none⟩ = some (.int .i64 d.m) ∧ w'.cell? ⟨w.heap.size + 1, 11, none⟩ = some (.slice B n' b))) (by kernel_rfl) (HS0.out.step ((Below.refl _ _).drew)) (fun hHeld => ?_)
  refine wpAnyH_take (i := 0) (v := ?_) rfl (by kernel_rfl) (by kernel_rfl) (by kernel_rfl) (fun _ _ _ h => h) (Or.inl ⟨by rfl, ?_⟩) (by assumption) ?_
  rotate_left
  · intro w hSw
    (try dsimp only at hSw)
    go_simp
    all_goals (with_reducible rfl)
  try simp only [List.getElem_toArray, List.getElem_cons_succ, List.getElem_cons_zero, Act.put, List.setIfInBounds_toArray, List.set_cons_zero, List.set_cons_succ]
  refine wpAnyH_take (i := 1) (v := ?_) rfl (by kernel_rfl) (by kernel_rfl) (by kernel_rfl) (fun _ _ _ h => h) (Or.inl ⟨by rfl, ?_⟩) (by assumption) ?_
  rotate_left
  · intro w hSw
    (try dsimp only at hSw)
    go_simp
    all_goals (with_reducible rfl)
  try simp only [List.getElem_toArray, List.getElem_cons_succ, List.getElem_cons_zero, Act.put, List.setIfInBounds_toArray, List.set_cons_zero, List.set_cons_succ]
  refine wpAnyH_take (i := 3) (v := ?_) rfl (by kernel_rfl) (by kernel_rfl) (by kernel_rfl) (fun _ _ _ h => h) (Or.inl ⟨by rfl, ?_⟩) (by assumption) ?_
  rotate_left
  · intro w hSw
    (try dsimp only at hSw)
    go_simp
    all_goals (with_reducible rfl)
  try simp only [List.getElem_toArray, List.getElem_cons_succ, List.getElem_cons_zero, Act.put, List.setIfInBounds_toArray, List.set_cons_zero, List.set_cons_succ]
  refine wpAnyH_take (i := 4) (v := ?_) rfl (by kernel_rfl) (by kernel_rfl) (by kernel_rfl) (fun _ _ _ h => h) (Or.inl ⟨by rfl, ?_⟩) (by assumption) ?_
  rotate_left
  · intro w hSw
    (try dsimp only at hSw)
    go_simp
    all_goals (with_reducible rfl)
  try simp only [List.getElem_toArray, List.getElem_cons_succ, List.getElem_cons_zero, Act.put, List.setIfInBounds_toArray, List.set_cons_zero, List.set_cons_succ]
  refine wpAnyH_ready (rs := [2]) (by kernel_rfl) (by simp) ?_
  refine AllReadyH.cons rfl (fun K hK => ?_) AllReadyH.nil
  go_simp
  refine (nums_calls c _ hx).mono ?_; rintro e w' ⟨rfl, hb⟩
  go_wp2_with fail
  refine hK.out _ _ (Two.step (by assumption) hb) (fun hHeld => ?_)
  clear hK K
  try simp only [List.getElem_toArray, List.getElem_cons_succ, List.getElem_cons_zero, Act.put, List.setIfInBounds_toArray, List.set_cons_zero, List.set_cons_succ]
  refine wpAnyH_ready (rs := [5]) (by kernel_rfl) (by simp) ?_
  refine AllReadyH.cons rfl (fun K hK => ?_) AllReadyH.nil
  go_simp
  refine (nums_calls d _ hy).mono ?_; rintro e w' ⟨rfl, hb⟩
  go_wp2_with fail
  refine hK.out _ _ (Two.step (by assumption) hb) (fun hHeld => ?_)
  clear hK K
  try simp only [List.getElem_toArray, List.getElem_cons_succ, List.getElem_cons_zero, Act.put, List.setIfInBounds_toArray, List.set_cons_zero, List.set_cons_succ]
  refine wpAnyH_take (i := 6) (v := ?_) rfl (by kernel_rfl) (by kernel_rfl) (by kernel_rfl) (fun _ _ _ h => h) (Or.inl ⟨by rfl, ?_⟩) (by assumption) ?_
  rotate_left
  · intro w hSw
    (try dsimp only at hSw)
    go_simp
    all_goals (with_reducible rfl)
  try simp only [List.getElem_toArray, List.getElem_cons_succ, List.getElem_cons_zero, Act.put, List.setIfInBounds_toArray, List.set_cons_zero, List.set_cons_succ]
  refine wpAnyH_take (i := 7) (v := ?_) rfl (by kernel_rfl) (by kernel_rfl) (by kernel_rfl) (fun _ _ _ h => h) (Or.inl ⟨by rfl, ?_⟩) (by assumption) ?_
  rotate_left
  · intro w hSw
    (try dsimp only at hSw)
    go_simp
    all_goals (with_reducible rfl)
  try simp only [List.getElem_toArray, List.getElem_cons_succ, List.getElem_cons_zero, Act.put, List.setIfInBounds_toArray, List.set_cons_zero, List.set_cons_succ]
  refine wpAnyH_take (i := 8) (v := undef) rfl (by kernel_rfl) (by kernel_rfl) (by kernel_rfl) (fun _ _ _ h => h) (Or.inr ⟨by rfl, rfl⟩) (by assumption) ?_
  try simp only [List.getElem_toArray, List.getElem_cons_succ, List.getElem_cons_zero, Act.put, List.setIfInBounds_toArray, List.set_cons_zero, List.set_cons_succ]
  refine wpAnyH_take (i := 9) (v := undef) rfl (by kernel_rfl) (by kernel_rfl) (by kernel_rfl) (fun _ _ _ h => h) (Or.inr ⟨by rfl, rfl⟩) (by assumption) ?_
  try simp only [List.getElem_toArray, List.getElem_cons_succ, List.getElem_cons_zero, Act.put, List.setIfInBounds_toArray, List.set_cons_zero, List.set_cons_succ]
  refine wpAnyH_take (i := 10) (v := undef) rfl (by kernel_rfl) (by kernel_rfl) (by kernel_rfl) (fun _ _ _ h => h) (Or.inr ⟨by rfl, rfl⟩) (by assumption) ?_
  try simp only [List.getElem_toArray, List.getElem_cons_succ, List.getElem_cons_zero, Act.put, List.setIfInBounds_toArray, List.set_cons_zero, List.set_cons_succ]
  refine wpAnyH_take (i := 11) (v := undef) rfl (by kernel_rfl) (by kernel_rfl) (by kernel_rfl) (fun _ _ _ h => h) (Or.inr ⟨by rfl, rfl⟩) (by assumption) ?_
  try simp only [List.getElem_toArray, List.getElem_cons_succ, List.getElem_cons_zero, Act.put, List.setIfInBounds_toArray, List.set_cons_zero, List.set_cons_succ]
  refine wpAnyH_take (i := 12) (v := undef) rfl (by kernel_rfl) (by kernel_rfl) (by kernel_rfl) (fun _ _ _ h => h) (Or.inr ⟨by rfl, rfl⟩) (by assumption) ?_
  try simp only [List.getElem_toArray, List.getElem_cons_succ, List.getElem_cons_zero, Act.put, List.setIfInBounds_toArray, List.set_cons_zero, List.set_cons_succ]
  refine wpAnyH_take (i := 13) (v := ?_) rfl (by kernel_rfl) (by kernel_rfl) (by kernel_rfl) (fun _ _ _ h => h) (Or.inl ⟨by rfl, ?_⟩) (by assumption) ?_
  rotate_left
  · intro w hSw
    (try dsimp only at hSw)
    go_simp
    all_goals (with_reducible rfl)
  try simp only [List.getElem_toArray, List.getElem_cons_succ, List.getElem_cons_zero, Act.put, List.setIfInBounds_toArray, List.set_cons_zero, List.set_cons_succ]
  refine wpAnyH_take (i := 14) (v := ?_) rfl (by kernel_rfl) (by kernel_rfl) (by kernel_rfl) (fun _ _ _ h => h) (Or.inl ⟨by rfl, ?_⟩) (by assumption) ?_
  rotate_left
  · intro w hSw
    (try dsimp only at hSw)
    go_simp
    all_goals (with_reducible rfl)
  try simp only [List.getElem_toArray, List.getElem_cons_succ, List.getElem_cons_zero, Act.put, List.setIfInBounds_toArray, List.set_cons_zero, List.set_cons_succ]
  refine wpAnyH_take (i := 15) (v := undef) rfl (by kernel_rfl) (by kernel_rfl) (by kernel_rfl) (fun _ _ _ h => h) (Or.inr ⟨by rfl, rfl⟩) (by assumption) ?_
  try simp only [List.getElem_toArray, List.getElem_cons_succ, List.getElem_cons_zero, Act.put, List.setIfInBounds_toArray, List.set_cons_zero, List.set_cons_succ]
  refine wpAnyH_take (i := 16) (v := undef) rfl (by kernel_rfl) (by kernel_rfl) (by kernel_rfl) (fun _ _ _ h => h) (Or.inr ⟨by rfl, rfl⟩) (by assumption) ?_
  try simp only [List.getElem_toArray, List.getElem_cons_succ, List.getElem_cons_zero, Act.put, List.setIfInBounds_toArray, List.set_cons_zero, List.set_cons_succ]
  refine wpAnyH_take (i := 17) (v := undef) rfl (by kernel_rfl) (by kernel_rfl) (by kernel_rfl) (fun _ _ _ h => h) (Or.inr ⟨by rfl, rfl⟩) (by assumption) ?_
  try simp only [List.getElem_toArray, List.getElem_cons_succ, List.getElem_cons_zero, Act.put, List.setIfInBounds_toArray, List.set_cons_zero, List.set_cons_succ]
  refine wpAnyH_take (i := 18) (v := undef) rfl (by kernel_rfl) (by kernel_rfl) (by kernel_rfl) (fun _ _ _ h => h) (Or.inr ⟨by rfl, rfl⟩) (by assumption) ?_
  try simp only [List.getElem_toArray, List.getElem_cons_succ, List.getElem_cons_zero, Act.put, List.setIfInBounds_toArray, List.set_cons_zero, List.set_cons_succ]
  refine wpAnyH_take (i := 19) (v := undef) rfl (by kernel_rfl) (by kernel_rfl) (by kernel_rfl) (fun _ _ _ h => h) (Or.inr ⟨by rfl, rfl⟩) (by assumption) ?_
  try simp only [List.getElem_toArray, List.getElem_cons_succ, List.getElem_cons_zero, Act.put, List.setIfInBounds_toArray, List.set_cons_zero, List.set_cons_succ]
  refine wpAnyH_take (i := 20) (v := ?_) rfl (by kernel_rfl) (by kernel_rfl) (by kernel_rfl) (fun _ _ _ h => h) (Or.inl ⟨by rfl, ?_⟩) (by assumption) ?_
  rotate_left
  · intro w hSw
    (try dsimp only at hSw)
    go_simp
    all_goals (with_reducible rfl)
  try simp only [List.getElem_toArray, List.getElem_cons_succ, List.getElem_cons_zero, Act.put, List.setIfInBounds_toArray, List.set_cons_zero, List.set_cons_succ]
  refine wpAnyH_take (i := 21) (v := ?_) rfl (by kernel_rfl) (by kernel_rfl) (by kernel_rfl) (fun _ _ _ h => h) (Or.inl ⟨by rfl, ?_⟩) (by assumption) ?_
  rotate_left
  · intro w hSw
    (try dsimp only at hSw)
    go_simp
    all_goals (with_reducible rfl)
  try simp only [List.getElem_toArray, List.getElem_cons_succ, List.getElem_cons_zero, Act.put, List.setIfInBounds_toArray, List.set_cons_zero, List.set_cons_succ]
  refine wpAnyH_take (i := 22) (v := undef) rfl (by kernel_rfl) (by kernel_rfl) (by kernel_rfl) (fun _ _ _ h => h) (Or.inr ⟨by rfl, rfl⟩) (by assumption) ?_
  try simp only [List.getElem_toArray, List.getElem_cons_succ, List.getElem_cons_zero, Act.put, List.setIfInBounds_toArray, List.set_cons_zero, List.set_cons_succ]
  refine wpAnyH_take (i := 23) (v := undef) rfl (by kernel_rfl) (by kernel_rfl) (by kernel_rfl) (fun _ _ _ h => h) (Or.inr ⟨by rfl, rfl⟩) (by assumption) ?_
  try simp only [List.getElem_toArray, List.getElem_cons_succ, List.getElem_cons_zero, Act.put, List.setIfInBounds_toArray, List.set_cons_zero, List.set_cons_succ]
  refine wpAnyH_take (i := 24) (v := undef) rfl (by kernel_rfl) (by kernel_rfl) (by kernel_rfl) (fun _ _ _ h => h) (Or.inr ⟨by rfl, rfl⟩) (by assumption) ?_
  try simp only [List.getElem_toArray, List.getElem_cons_succ, List.getElem_cons_zero, Act.put, List.setIfInBounds_toArray, List.set_cons_zero, List.set_cons_succ]
  refine wpAnyH_take (i := 25) (v := undef) rfl (by kernel_rfl) (by kernel_rfl) (by kernel_rfl) (fun _ _ _ h => h) (Or.inr ⟨by rfl, rfl⟩) (by assumption) ?_
  try simp only [List.getElem_toArray, List.getElem_cons_succ, List.getElem_cons_zero, Act.put, List.setIfInBounds_toArray, List.set_cons_zero, List.set_cons_succ]
  refine wpAnyH_take (i := 26) (v := undef) rfl (by kernel_rfl) (by kernel_rfl) (by kernel_rfl) (fun _ _ _ h => h) (Or.inr ⟨by rfl, rfl⟩) (by assumption) ?_
  try simp only [List.getElem_toArray, List.getElem_cons_succ, List.getElem_cons_zero, Act.put, List.setIfInBounds_toArray, List.set_cons_zero, List.set_cons_succ]
  refine wpAnyH_take (i := 27) (v := ?_) rfl (by kernel_rfl) (by kernel_rfl) (by kernel_rfl) (fun _ _ _ h => h) (Or.inl ⟨by rfl, ?_⟩) (by assumption) ?_
  rotate_left
  · intro w hSw
    (try dsimp only at hSw)
    go_simp
    all_goals (with_reducible rfl)
  try simp only [List.getElem_toArray, List.getElem_cons_succ, List.getElem_cons_zero, Act.put, List.setIfInBounds_toArray, List.set_cons_zero, List.set_cons_succ]
  refine wpAnyH_take (i := 28) (v := ?_) rfl (by kernel_rfl) (by kernel_rfl) (by kernel_rfl) (fun _ _ _ h => h) (Or.inl ⟨by rfl, ?_⟩) (by assumption) ?_
  rotate_left
  · intro w hSw
    (try dsimp only at hSw)
    go_simp
    all_goals (with_reducible rfl)
  try simp only [List.getElem_toArray, List.getElem_cons_succ, List.getElem_cons_zero, Act.put, List.setIfInBounds_toArray, List.set_cons_zero, List.set_cons_succ]
  refine wpAnyH_done (by kernel_rfl) ?_ _
  go_wp2_with fail
  go_ret
  exact ⟨ret_bool HS.out.symm, And.left (by assumption)⟩

/-- chain.same. -/
theorem same_calls {w : World} {x y : Cd} {A B : Option Addr} {n n' a b : Nat} (hA : At w A (ints x.2)) (hB : At w B (ints y.2)) (hn : n = x.2.length) (hn' : n' = y.2.length) (hmax : x.2.length * 8 ≤ 140737488355328) (hx : SumOk x.1) (hy : SumOk y.1) :
    Calls Try.prog 23 #[.agg #[.int .i64 x.1.id, .int .i64 x.1.kind, .string x.1.key, .int .i64 x.1.blob, .int .i64 x.1.other, .int .i64 x.1.index, .int .i64 x.1.node, .int .i64 x.1.size, .int .u32 x.1.sum, .int .i64 x.1.k, .int .i64 x.1.m, .slice A n a], .agg #[.int .i64 y.1.id, .int .i64 y.1.kind, .string y.1.key, .int .i64 y.1.blob, .int .i64 y.1.other, .int .i64 y.1.index, .int .i64 y.1.node, .int .i64 y.1.size, .int .u32 y.1.sum, .int .i64 y.1.k, .int .i64 y.1.m, .slice B n' b]] w (RetV w (.bool (sameB x y))) := by
  cases h1 : numsB x.1 y.1 with
  | false => exact same_n hA hB hn hn' hmax hx hy h1
  | true =>
    cases h2 : keyB x.1 y.1 with
    | false => exact same_f hA hB hn hn' hmax hx hy h1 h2
    | true =>
      cases h3 : codeB x.1 y.1 with
      | false => exact same_tf hA hB hn hn' hmax hx hy h1 h2 h3
      | true => exact same_tt hA hB hn hn' hmax hx hy h1 h2 h3

end Go.Proofs.Ytlcchpjficbgmaa
