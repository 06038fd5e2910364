/- Contracts: frame.whole at a command; frame.ReadCmd. -/
import Derived.Test.YtfcacplecapgfaaE18
namespace Go.Proofs.Ytfcacplecapgfaa
open Go.RowKit
set_option linter.unusedVariables false
set_option linter.unusedSimpArgs false

theorem results_row_int {P : Program} {fn : Func} {p q : Tmp} {ty ty2 : TypeId} (h : fn.results = #[.cell p ty, .cell q ty2]) (tmps : Array Value) (w : World) (g g2 : Nat) (t : TypeId) (cs : Array Value) (fr : Nat × Nat) (d : TypeDesc) (x : Value)
    (hp : tmps.getD p undef = .pointer (some ⟨g, 0, none⟩)) (hg : w.heap[g]? = some (.cells cs t fr))
    (hu : P.underlying ty = some d) (hd : (match d with | .struct _ | .array _ _ => true | _ => false) = true) (hi : (P.info? ty).map (·.size) = some cs.size)
    (hq : tmps.getD q undef = .pointer (some ⟨g2, 0, none⟩)) (hc : w.cell? ⟨g2, 0, none⟩ = some x) (hu2 : P.underlying ty2 = some (.int .i64)) :
    (results fn tmps).run P w = .ok (.tuple #[.agg cs, x]) w := by
  have hp' : tmps[p]?.getD undef = .pointer (some ⟨g, 0, none⟩) := by simpa using hp
  have hq' : tmps[q]?.getD undef = .pointer (some ⟨g2, 0, none⟩) := by simpa using hq
  have h2 : (loadVar ty2 ⟨g2, 0, none⟩).run P w = .ok x w := by
    have hagg : (isAgg ty2).run P w = .ok false w := by
      unfold isAgg
      rw [Sem.run_bind, run_underlying hu2 w]
      rfl
    simp [loadVar, Sem.run_bind, hagg, hc, go_sem]
  simp [results, h, hp', hq', asAddr, run_loadVar_row w g t ty cs fr d hg hu hd hi, h2]

theorem readC_len {l r : List B8} {c : Cm} {ns : List Int} (h : readC l = some ((c, ns), r)) : ns.length ≤ 255 := by
  unfold readC at h
  cases h1 : numsR 1152921504606846976 7 l with
  | none => rw [h1] at h; cases h
  | some a =>
    rw [h1, Option.bind_some] at h
    cases h2 : numR 4294967295 a.2 with
    | none => rw [h2] at h; cases h
    | some b =>
      rw [h2, Option.bind_some] at h
      cases h3 : numsR 255 2 b.2 with
      | none => rw [h3] at h; cases h
      | some c' =>
        rw [h3, Option.bind_some] at h
        cases h4 : numR 8 c'.2 with
        | none => rw [h4] at h; cases h
        | some d =>
          rw [h4, Option.bind_some] at h
          split at h
          · cases h
          · cases h5 : numR 255 (d.2.drop d.1) with
            | none => rw [h5] at h; cases h
            | some e =>
              rw [h5, Option.bind_some] at h
              cases h6 : numsR 15 e.1 e.2 with
              | none => rw [h6] at h; cases h
              | some f =>
                rw [h6, Option.bind_some] at h
                split at h
                · rename_i hm
                  injection h with h
                  injection h with h
                  injection h with _ h
                  rw [← h]
                  exact (mayC_ok.1 hm).len
                · cases h

theorem put_set {w0 w : World} {g g2 e sz n B : Nat} {vs : List Value} {cs : Array Value} {T T2 : TypeId} {x y : Value} {u : Value} {xs : List Value} (hg : w.heap[g]? = some (.cells cs T (0, 0))) (hl : vs.length = cs.size)
    (hg2 : w.heap[g2]? = some (.cells #[x] T2 (0, 0))) (hlt : g < g2) (hb : Below g w0 w) (hB : g2 < B) (ho : w.ownsRow B e sz u n xs) :
    ((putAll w g 0 vs).setCell ⟨g2, 0, none⟩ y).heap[g]? = some (.cells vs.toArray T (0, 0)) ∧ ((putAll w g 0 vs).setCell ⟨g2, 0, none⟩ y).heap[g2]? = some (.cells #[y] T2 (0, 0)) ∧
      Below g w0 ((putAll w g 0 vs).setCell ⟨g2, 0, none⟩ y) ∧ ((putAll w g 0 vs).setCell ⟨g2, 0, none⟩ y).ownsRow B e sz u n xs := by
  have hrow := putAll_full (vs := vs) hg hl
  have hoth := putAll_other (g := g) (k := g2) (by omega) vs w 0
  have hbF := putAll_below (B := g) (Nat.le_refl _) vs w 0 hb
  have hoF := putAll_owns (g := g) (by omega) vs w 0 ho
  generalize putAll w g 0 vs = wp at *
  have k1 := (heap_setCell_other wp ⟨g2, 0, none⟩ g y (by simp; omega)).trans hrow
  have k2 := heap_setCell_same wp g2 0 _ _ y (hoth.trans hg2)
  have hbG : Below g w0 (wp.setCell ⟨g2, 0, none⟩ y) := hbF.setCell (by show g ≤ g2; omega) y
  exact ⟨k1, k2, hbG, ownsRow_setCell_below hoF hB y⟩

theorem whole_boxes (w : World) {A : Option Addr} {d : Nat} {l : List B8} (h : SlB w A d l) : ∃ w3, w3 = ((w.alloc (.cells #[.int .i64 0, .int .i64 0, .string ⟨#[]⟩, .int .i64 0, .int .i64 0, .int .i64 0, .int .i64 0, .int .i64 0, .int .u32 0, .int .i64 0, .int .i64 0, .slice none 0 0] 27)).alloc (.cells #[.int .i64 0] 29)).alloc (.cells #[.slice A l.length d] 88) ∧
    Below w.heap.size w w3 ∧ w3.heap[w.heap.size]? = some (.cells #[.int .i64 0, .int .i64 0, .string ⟨#[]⟩, .int .i64 0, .int .i64 0, .int .i64 0, .int .i64 0, .int .i64 0, .int .u32 0, .int .i64 0, .int .i64 0, .slice none 0 0] 27 (0, 0)) ∧
    w3.heap[w.heap.size + 1]? = some (.cells #[.int .i64 0] 29 (0, 0)) ∧ FdAt w3 (w.heap.size + 2) A d l ∧ w3.heap.size = w.heap.size + 3 := by
  refine ⟨_, rfl, ?_⟩
  have hb1 := below1' w (.cells #[.int .i64 0, .int .i64 0, .string ⟨#[]⟩, .int .i64 0, .int .i64 0, .int .i64 0, .int .i64 0, .int .i64 0, .int .u32 0, .int .i64 0, .int .i64 0, .slice none 0 0] 27)
  have h1 : (w.alloc (.cells #[.int .i64 0, .int .i64 0, .string ⟨#[]⟩, .int .i64 0, .int .i64 0, .int .i64 0, .int .i64 0, .int .i64 0, .int .u32 0, .int .i64 0, .int .i64 0, .slice none 0 0] 27)).heap[w.heap.size]? = some (.cells #[.int .i64 0, .int .i64 0, .string ⟨#[]⟩, .int .i64 0, .int .i64 0, .int .i64 0, .int .i64 0, .int .i64 0, .int .u32 0, .int .i64 0, .int .i64 0, .slice none 0 0] 27 (0, 0)) := heap_alloc_new w _
  have hs1 : (w.alloc (.cells #[.int .i64 0, .int .i64 0, .string ⟨#[]⟩, .int .i64 0, .int .i64 0, .int .i64 0, .int .i64 0, .int .i64 0, .int .u32 0, .int .i64 0, .int .i64 0, .slice none 0 0] 27)).heap.size = w.heap.size + 1 := by simp
  generalize w.alloc (.cells #[.int .i64 0, .int .i64 0, .string ⟨#[]⟩, .int .i64 0, .int .i64 0, .int .i64 0, .int .i64 0, .int .i64 0, .int .u32 0, .int .i64 0, .int .i64 0, .slice none 0 0] 27) = wa at *
  have hb2 := below1' wa (.cells #[.int .i64 0] 29)
  have h2 : (wa.alloc (.cells #[.int .i64 0] 29)).heap[wa.heap.size]? = some (.cells #[.int .i64 0] 29 (0, 0)) := heap_alloc_new wa _
  have hs2 : (wa.alloc (.cells #[.int .i64 0] 29)).heap.size = w.heap.size + 1 + 1 := by simp; omega
  rw [hs1] at h2
  have h12 := (hb2.block w.heap.size (by omega)).trans h1
  generalize wa.alloc (.cells #[.int .i64 0] 29) = wb at *
  have hb3 := below1' wb (.cells #[.slice A l.length d] 88)
  have h3 : (wb.alloc (.cells #[.slice A l.length d] 88)).heap[wb.heap.size]? = some (.cells #[.slice A l.length d] 88 (0, 0)) := heap_alloc_new wb _
  have hs3 : (wb.alloc (.cells #[.slice A l.length d] 88)).heap.size = w.heap.size + 1 + 1 + 1 := by simp; omega
  rw [hs2] at h3
  have hB := (hb1.trans (hb2.mono (by omega))).trans (hb3.mono (by omega))
  refine ⟨hB, (hb3.block w.heap.size (by omega)).trans h12, (hb3.block (w.heap.size + 1) (by omega)).trans h2, ⟨h3, h.at'.below hB, fun b off he => ?_, h.len, h.nil, fun a ha => (h.far a ha).1⟩, hs3⟩
  have := (h.far _ he).2
  simp only at this
  omega

set_option maxHeartbeats 4000000 in
set_option maxRecDepth 100000 in
theorem wholeC_calls {w : World} {A : Option Addr} {d : Nat} {l : List B8} (h : SlB w A d l) :
    Calls Try.prog 28 #[.slice A l.length d, .func (.func 29) #[] #[]] w (RetC w (oneC l)) := by
  have hmf : ∀ (fn : Fn) (first cap : Array Value) (w : World), (Instr.makeFunc fn first cap).run Try.prog w = .ok (.func fn first cap) w := fun _ _ _ _ => rfl
  obtain ⟨w3, hw3, hB3, hr3, he3, hF3, hz3⟩ := whole_boxes w h
  have HW3 := Lib.hid hw3
  have HN1 := Lib.hid (fcmdR_calls hF3)
  have HH := Lib.hid h
  clear hw3 h hF3
  generalize hor : readC l = o at HN1
  have HO := Lib.hid hor
  clear hor
  go_enter_defers Try.func28, Try.ntmps28
  go_wp2_with fail
  have hw3 := HW3.out
  rw [← hw3]
  clear hw3 HW3
  refine HN1.out.mono ?_
  rintro e w4 ⟨hgr, ⟨c, ns, r, A', d', P, e', ho, rfl, hF4, hown⟩ | ⟨ho, rfl⟩⟩
  · have hr4 := (hgr.block w.heap.size (by omega) (by intro he; injection he with he; omega)).trans hr3
    have he4 := (hgr.block (w.heap.size + 1) (by omega) (by intro he; injection he with he; omega)).trans he3
    have hB4 : Below w.heap.size w w4 := ⟨hgr.os.trans hB3.os, hgr.tape.trans hB3.tape, hgr.output.trans hB3.output, Nat.le_trans hB3.size hgr.size, fun k hk => (hgr.block k (by omega) (by intro he; injection he with he; omega)).trans (hB3.block k hk)⟩
    have hrd := cell_of_row _ _ 0 _ _ (0, 0) hF4.hd
    simp only [List.getElem?_toArray, List.getElem?_cons_zero] at hrd
    have hns : ns.length ≤ 255 := readC_len (HO.out.trans ho)
    have hz4 := hgr.size
    have hrow := putAll_full (vs := #[.int .i64 c.id, .int .i64 c.kind, .string c.key, .int .i64 c.blob, .int .i64 c.other, .int .i64 c.index, .int .i64 c.node, .int .i64 c.size, .int .u32 c.sum, .int .i64 c.k, .int .i64 c.m, .slice P ns.length e'].toList) hr4 rfl
    have hoth := (putAll_other (g := w.heap.size) (k := w.heap.size + 1) (by omega) #[.int .i64 c.id, .int .i64 c.kind, .string c.key, .int .i64 c.blob, .int .i64 c.other, .int .i64 c.index, .int .i64 c.node, .int .i64 c.size, .int .u32 c.sum, .int .i64 c.k, .int .i64 c.m, .slice P ns.length e'].toList w4 0).trans he4
    have hbF := putAll_below (Nat.le_refl _) #[.int .i64 c.id, .int .i64 c.kind, .string c.key, .int .i64 c.blob, .int .i64 c.other, .int .i64 c.index, .int .i64 c.node, .int .i64 c.size, .int .u32 c.sum, .int .i64 c.k, .int .i64 c.m, .slice P ns.length e'].toList w4 0 hB4
    have hoF := putAll_owns (g := w.heap.size) (by omega) #[.int .i64 c.id, .int .i64 c.kind, .string c.key, .int .i64 c.blob, .int .i64 c.other, .int .i64 c.index, .int .i64 c.node, .int .i64 c.size, .int .u32 c.sum, .int .i64 c.k, .int .i64 c.m, .slice P ns.length e'].toList w4 0 hown
    have HROW := Lib.hid hrow
    have HOTH := Lib.hid hoth
    have HBF := Lib.hid hbF
    have HOF := Lib.hid hoF
    have z := cells_of (c := zeroC) (v := .slice none 0 0) hr4
    simp only [zeroC] at z
    obtain ⟨z0, z1, z2, z3, z4, z5, z6, z7, z8, z9, z10, z11⟩ := z
    have hfz := fun o => frozen_of_row _ w.heap.size o _ _ hr4
    have hce := cell_of_row _ _ 0 _ _ (0, 0) he4
    have hfe := frozen_of_row _ (w.heap.size + 1) 0 _ _ he4
    simp only [List.getElem?_toArray, List.getElem?_cons_zero] at hce
    clear hrow hoth hbF hoF hown hF4 hgr hr4 he4 hr3 he3 hB3 hB4
    unfold cmv
    cases r with
    | cons y r =>
      have hon : Hid (oneC l = none) := by
        show oneC l = none
        unfold oneC; rw [HO.out, ho]
      simp only [List.length_cons] at hrd
      have hpos : (0 : Int) < ((r.length + 1 : Nat) : Int) := by omega
      go_wp2_with fail
      refine leaves_cons (f := 50) (args := #[.pointer (some ⟨w.heap.size, 0, none⟩), .pointer (some ⟨w.heap.size + 1, 0, none⟩)]) (by simp) (by simp [go_sem]) ?_
      refine (catchC_panic (c := c) (v := .slice P ns.length e') HROW.out HOTH.out (by omega)).mono ?_
      rintro e u' w8 ⟨rfl, rfl, hg8, he8, hb8⟩
      have hc8 := cell_of_row _ _ 0 _ _ (0, 0) he8
      simp only [List.getElem?_toArray, List.getElem?_cons_zero] at hc8
      refine ⟨_, results_row_int rfl _ _ w.heap.size (w.heap.size + 1) 27 _ (0, 0) _ (.int .i64 51) rfl hg8 Try.underlying27 rfl (by kernel_rfl) rfl hc8 Try.underlying29, ?_⟩
      exact ⟨none, 0, by rw [hon.out]; rfl, (HBF.out).trans hb8, by rw [hon.out]; exact World.ownsRow_nil _ _ _ _, by rw [hon.out]; decide⟩
    | nil =>
      have hon : Hid (oneC l = some (c, ns)) := by
        show oneC l = some (c, ns)
        unfold oneC; rw [HO.out, ho]
      simp only [List.length_nil] at hrd
      go_wp2_with fail
      have HP := Lib.hid (put_set (w0 := w) (y := .int .i64 0) (vs := #[.int .i64 c.id, .int .i64 c.kind, .string c.key, .int .i64 c.blob, .int .i64 c.other, .int .i64 c.index, .int .i64 c.node, .int .i64 c.size, .int .u32 c.sum, .int .i64 c.k, .int .i64 c.m, .slice P ns.length e'].toList) HROW.out rfl HOTH.out (by omega : w.heap.size < w.heap.size + 1) HBF.out (by omega : w.heap.size + 1 < w3.heap.size) HOF.out)
      refine leaves_cons (f := 50) (args := #[.pointer (some ⟨w.heap.size, 0, none⟩), .pointer (some ⟨w.heap.size + 1, 0, none⟩)]) (by simp) (by simp [go_sem]) ?_
      refine (catchC_idle _ _ _).mono ?_
      rintro e u' w8 ⟨rfl, rfl, rfl⟩
      obtain ⟨hg8, he8, hb8, ho8⟩ := HP.out
      have hc8 := cell_of_row _ _ 0 _ _ (0, 0) he8
      simp only [List.getElem?_toArray, List.getElem?_cons_zero] at hc8
      refine ⟨_, results_row_int rfl _ _ w.heap.size (w.heap.size + 1) 27 _ (0, 0) _ (.int .i64 0) rfl hg8 Try.underlying27 rfl (by kernel_rfl) rfl hc8 Try.underlying29, ?_⟩
      exact ⟨P, e', by rw [hon.out]; rfl, hb8, by rw [hon.out]; exact own_lower ho8 (by omega), by rw [hon.out]; exact hns⟩
  · go_wp2_with fail
    have hon : Hid (oneC l = none) := by
      show oneC l = none
      unfold oneC; rw [HO.out, ho]
    have hr4 := (hgr.block w.heap.size (by omega) (by intro he; injection he with he; omega)).trans hr3
    have he4 := (hgr.block (w.heap.size + 1) (by omega) (by intro he; injection he with he; omega)).trans he3
    have hB4 : Below w.heap.size w w4 := ⟨hgr.os.trans hB3.os, hgr.tape.trans hB3.tape, hgr.output.trans hB3.output, Nat.le_trans hB3.size hgr.size, fun k hk => (hgr.block k (by omega) (by intro he; injection he with he; omega)).trans (hB3.block k hk)⟩
    refine leaves_cons (f := 50) (args := #[.pointer (some ⟨w.heap.size, 0, none⟩), .pointer (some ⟨w.heap.size + 1, 0, none⟩)]) (by simp) (by simp [go_sem]) ?_
    refine (catchC_panic (c := zeroC) (v := .slice none 0 0) hr4 he4 (by omega)).mono ?_
    rintro e u' w8 ⟨rfl, rfl, hg8, he8, hb8⟩
    have hc8 := cell_of_row _ _ 0 _ _ (0, 0) he8
    simp only [List.getElem?_toArray, List.getElem?_cons_zero] at hc8
    refine ⟨_, results_row_int rfl _ _ w.heap.size (w.heap.size + 1) 27 _ (0, 0) _ (.int .i64 51) rfl hg8 Try.underlying27 rfl (by kernel_rfl) rfl hc8 Try.underlying29, ?_⟩
    exact ⟨none, 0, by rw [hon.out]; rfl, (hB4).trans hb8, by rw [hon.out]; exact World.ownsRow_nil _ _ _ _, by rw [hon.out]; decide⟩


set_option maxHeartbeats 4000000 in
set_option maxRecDepth 100000 in
theorem readCmd_calls {w : World} {A : Option Addr} {d : Nat} {l : List B8} (h : SlB w A d l) :
    Calls Try.prog 9 #[.slice A l.length d] w (RetC w (oneC l)) := by
  have hb1 := below1' w (.cells #[.int .i64 0, .int .i64 0, .string ⟨#[]⟩, .int .i64 0, .int .i64 0, .int .i64 0, .int .i64 0, .int .i64 0, .int .u32 0, .int .i64 0, .int .i64 0, .slice none 0 0] 27)
  have h1 : (w.alloc (.cells #[.int .i64 0, .int .i64 0, .string ⟨#[]⟩, .int .i64 0, .int .i64 0, .int .i64 0, .int .i64 0, .int .i64 0, .int .u32 0, .int .i64 0, .int .i64 0, .slice none 0 0] 27)).heap[w.heap.size]? = some (.cells #[.int .i64 0, .int .i64 0, .string ⟨#[]⟩, .int .i64 0, .int .i64 0, .int .i64 0, .int .i64 0, .int .i64 0, .int .u32 0, .int .i64 0, .int .i64 0, .slice none 0 0] 27 (0, 0)) := heap_alloc_new w _
  have hs1 : (w.alloc (.cells #[.int .i64 0, .int .i64 0, .string ⟨#[]⟩, .int .i64 0, .int .i64 0, .int .i64 0, .int .i64 0, .int .i64 0, .int .u32 0, .int .i64 0, .int .i64 0, .slice none 0 0] 27)).heap.size = w.heap.size + 1 := by simp
  have hS1 := h.below hb1
  obtain ⟨w1, hw1⟩ : ∃ w1, w1 = w.alloc (.cells #[.int .i64 0, .int .i64 0, .string ⟨#[]⟩, .int .i64 0, .int .i64 0, .int .i64 0, .int .i64 0, .int .i64 0, .int .u32 0, .int .i64 0, .int .i64 0, .slice none 0 0] 27) := ⟨_, rfl⟩
  rw [← hw1] at hb1 h1 hs1 hS1
  have HW := Lib.hid hw1
  have HN := Lib.hid (wholeC_calls hS1)
  clear hw1 h hS1
  generalize oneC l = o at *
  go_enter Try.func9, Try.ntmps9
  go_wp2_with fail
  have hw1 := HW.out
  rw [← hw1]
  clear hw1 HW
  refine HN.out.mono ?_
  rintro e w2 ⟨P, e', rfl, hb2, hown, hlen⟩
  have hr2 := (hb2.block w.heap.size (by omega)).trans h1
  have hrow := putAll_full (vs := #[.int .i64 (valC o).1.id, .int .i64 (valC o).1.kind, .string (valC o).1.key, .int .i64 (valC o).1.blob, .int .i64 (valC o).1.other, .int .i64 (valC o).1.index, .int .i64 (valC o).1.node, .int .i64 (valC o).1.size, .int .u32 (valC o).1.sum, .int .i64 (valC o).1.k, .int .i64 (valC o).1.m, .slice P (valC o).2.length e'].toList) hr2 rfl
  have hbF := putAll_below (Nat.le_refl _) #[.int .i64 (valC o).1.id, .int .i64 (valC o).1.kind, .string (valC o).1.key, .int .i64 (valC o).1.blob, .int .i64 (valC o).1.other, .int .i64 (valC o).1.index, .int .i64 (valC o).1.node, .int .i64 (valC o).1.size, .int .u32 (valC o).1.sum, .int .i64 (valC o).1.k, .int .i64 (valC o).1.m, .slice P (valC o).2.length e'].toList w2 0 (hb1.trans (hb2.mono (by omega)))
  have hoF := putAll_owns (g := w.heap.size) (by omega) #[.int .i64 (valC o).1.id, .int .i64 (valC o).1.kind, .string (valC o).1.key, .int .i64 (valC o).1.blob, .int .i64 (valC o).1.other, .int .i64 (valC o).1.index, .int .i64 (valC o).1.node, .int .i64 (valC o).1.size, .int .u32 (valC o).1.sum, .int .i64 (valC o).1.k, .int .i64 (valC o).1.m, .slice P (valC o).2.length e'].toList w2 0 hown
  have HROW := Lib.hid hrow
  have HBF := Lib.hid hbF
  have HOF := Lib.hid hoF
  have z := cells_of (c := zeroC) (v := .slice none 0 0) hr2
  simp only [zeroC] at z
  obtain ⟨z0, z1, z2, z3, z4, z5, z6, z7, z8, z9, z10, z11⟩ := z
  have hfz := fun o => frozen_of_row _ w.heap.size o _ _ hr2
  clear hrow hbF hoF hown hr2 h1 hb1 hb2 HN
  unfold cmv
  go_wp2_with fail
  refine bodyPost_ret (results_row_tmp rfl _ _ w.heap.size 27 #[.int .i64 (valC o).1.id, .int .i64 (valC o).1.kind, .string (valC o).1.key, .int .i64 (valC o).1.blob, .int .i64 (valC o).1.other, .int .i64 (valC o).1.index, .int .i64 (valC o).1.node, .int .i64 (valC o).1.size, .int .u32 (valC o).1.sum, .int .i64 (valC o).1.k, .int .i64 (valC o).1.m, .slice P (valC o).2.length e'] (0, 0) _ rfl HROW.out Try.underlying27 rfl (by kernel_rfl)) rfl ?_
  exact ⟨P, e', rfl, HBF.out, own_lower HOF.out (by omega), hlen⟩
end Go.Proofs.Ytfcacplecapgfaa
