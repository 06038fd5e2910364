/- Messages: vocabulary; SameMsg of messages that are the same. -/
import Derived.Test.YtfcacplecapgfaaG1
namespace Go.Proofs.Ytfcacplecapgfaa
open Go.RowKit
set_option linter.unusedVariables false
set_option linter.unusedSimpArgs false

/-- A message's plain fields. -/
structure Mh where
  kind : Int
  frm : Int
  to : Int
  ballot : Int
  slot : Int
  blob : Int
  index : Int
  epoch : Int
  id : Int
  ok : Bool
  cmd : Cm
/-- A message. -/
structure Mg where
  h : Mh
  cn : List Int
  vs : List Vt
  bs : List B8
/-- What a message's slices show. -/
structure MgAt (w : World) (A : Option Addr) (d : Nat) (V : Option Addr) (B : Option Addr) (f : Nat) (m : Mg) : Prop where
  cn : At w A (ints m.cn)
  cnil : A = none → d = 0
  cmax : m.cn.length * 8 ≤ 140737488351232
  vts : ∃ us, At w V us ∧ Vts w us m.vs
  vmax : m.vs.length ≤ 140737488351232
  bs : At w B (bys m.bs)
  bnil : B = none → f = 0
  bmax : m.bs.length ≤ 140737488351232
  sum : SumOk m.h.cmd
theorem MgAt.below {W w : World} {A : Option Addr} {d : Nat} {V : Option Addr} {B : Option Addr} {f : Nat} {m : Mg} (h : MgAt W A d V B f m) (hb : Below W.heap.size W w) : MgAt w A d V B f m := by
  obtain ⟨us, h1, h2⟩ := h.vts
  exact ⟨h.cn.below hb, h.cnil, h.cmax, ⟨us, h1.below hb, Vts.below hb _ _ h2⟩, h.vmax, h.bs.below hb, h.bnil, h.bmax, h.sum⟩
theorem mcells_of {w : World} {g : Nat} {m : Mh} {cv vv bv : Value} {t : TypeId} {fz : Nat × Nat} (h : w.heap[g]? = some (.cells #[.int .i64 m.kind, .int .i64 m.frm, .int .i64 m.to, .int .i64 m.ballot, .int .i64 m.slot, .int .i64 m.blob, .int .i64 m.index, .int .i64 m.epoch, .int .i64 m.id, .bool m.ok, .int .i64 m.cmd.id, .int .i64 m.cmd.kind, .string m.cmd.key, .int .i64 m.cmd.blob, .int .i64 m.cmd.other, .int .i64 m.cmd.index, .int .i64 m.cmd.node, .int .i64 m.cmd.size, .int .u32 m.cmd.sum, .int .i64 m.cmd.k, .int .i64 m.cmd.m, cv, vv, bv] t fz)) : w.cell? ⟨g, 0, none⟩ = some (.int .i64 m.kind) ∧ w.cell? ⟨g, 1, none⟩ = some (.int .i64 m.frm) ∧ w.cell? ⟨g, 2, none⟩ = some (.int .i64 m.to) ∧ w.cell? ⟨g, 3, none⟩ = some (.int .i64 m.ballot) ∧ w.cell? ⟨g, 4, none⟩ = some (.int .i64 m.slot) ∧ w.cell? ⟨g, 5, none⟩ = some (.int .i64 m.blob) ∧ w.cell? ⟨g, 6, none⟩ = some (.int .i64 m.index) ∧ w.cell? ⟨g, 7, none⟩ = some (.int .i64 m.epoch) ∧ w.cell? ⟨g, 8, none⟩ = some (.int .i64 m.id) ∧ w.cell? ⟨g, 9, none⟩ = some (.bool m.ok) ∧ w.cell? ⟨g, 10, none⟩ = some (.int .i64 m.cmd.id) ∧ w.cell? ⟨g, 11, none⟩ = some (.int .i64 m.cmd.kind) ∧ w.cell? ⟨g, 12, none⟩ = some (.string m.cmd.key) ∧ w.cell? ⟨g, 13, none⟩ = some (.int .i64 m.cmd.blob) ∧ w.cell? ⟨g, 14, none⟩ = some (.int .i64 m.cmd.other) ∧ w.cell? ⟨g, 15, none⟩ = some (.int .i64 m.cmd.index) ∧ w.cell? ⟨g, 16, none⟩ = some (.int .i64 m.cmd.node) ∧ w.cell? ⟨g, 17, none⟩ = some (.int .i64 m.cmd.size) ∧ w.cell? ⟨g, 18, none⟩ = some (.int .u32 m.cmd.sum) ∧ w.cell? ⟨g, 19, none⟩ = some (.int .i64 m.cmd.k) ∧ w.cell? ⟨g, 20, none⟩ = some (.int .i64 m.cmd.m) ∧ w.cell? ⟨g, 21, none⟩ = some cv ∧ w.cell? ⟨g, 22, none⟩ = some vv ∧ w.cell? ⟨g, 23, none⟩ = some bv :=
  ⟨cell_of_row _ _ 0 _ _ _ h, cell_of_row _ _ 1 _ _ _ h, cell_of_row _ _ 2 _ _ _ h, cell_of_row _ _ 3 _ _ _ h, cell_of_row _ _ 4 _ _ _ h, cell_of_row _ _ 5 _ _ _ h, cell_of_row _ _ 6 _ _ _ h, cell_of_row _ _ 7 _ _ _ h, cell_of_row _ _ 8 _ _ _ h, cell_of_row _ _ 9 _ _ _ h, cell_of_row _ _ 10 _ _ _ h, cell_of_row _ _ 11 _ _ _ h, cell_of_row _ _ 12 _ _ _ h, cell_of_row _ _ 13 _ _ _ h, cell_of_row _ _ 14 _ _ _ h, cell_of_row _ _ 15 _ _ _ h, cell_of_row _ _ 16 _ _ _ h, cell_of_row _ _ 17 _ _ _ h, cell_of_row _ _ 18 _ _ _ h, cell_of_row _ _ 19 _ _ _ h, cell_of_row _ _ 20 _ _ _ h, cell_of_row _ _ 21 _ _ _ h, cell_of_row _ _ 22 _ _ _ h, cell_of_row _ _ 23 _ _ _ h⟩

set_option maxHeartbeats 8000000 in
set_option maxRecDepth 100000 in
theorem smsg_calls {w : World} {m : Mg} {A A' V V' B B' : Option Addr} {d d' e e' f f' : Nat} (h1 : MgAt w A d V B f m) (h2 : MgAt w A' d' V' B' f' m) :
    Calls Try.prog 18 #[.agg #[.int .i64 m.h.kind, .int .i64 m.h.frm, .int .i64 m.h.to, .int .i64 m.h.ballot, .int .i64 m.h.slot, .int .i64 m.h.blob, .int .i64 m.h.index, .int .i64 m.h.epoch, .int .i64 m.h.id, .bool m.h.ok, .int .i64 m.h.cmd.id, .int .i64 m.h.cmd.kind, .string m.h.cmd.key, .int .i64 m.h.cmd.blob, .int .i64 m.h.cmd.other, .int .i64 m.h.cmd.index, .int .i64 m.h.cmd.node, .int .i64 m.h.cmd.size, .int .u32 m.h.cmd.sum, .int .i64 m.h.cmd.k, .int .i64 m.h.cmd.m, .slice A m.cn.length d, .slice V m.vs.length e, .slice B m.bs.length f], .agg #[.int .i64 m.h.kind, .int .i64 m.h.frm, .int .i64 m.h.to, .int .i64 m.h.ballot, .int .i64 m.h.slot, .int .i64 m.h.blob, .int .i64 m.h.index, .int .i64 m.h.epoch, .int .i64 m.h.id, .bool m.h.ok, .int .i64 m.h.cmd.id, .int .i64 m.h.cmd.kind, .string m.h.cmd.key, .int .i64 m.h.cmd.blob, .int .i64 m.h.cmd.other, .int .i64 m.h.cmd.index, .int .i64 m.h.cmd.node, .int .i64 m.h.cmd.size, .int .u32 m.h.cmd.sum, .int .i64 m.h.cmd.k, .int .i64 m.h.cmd.m, .slice A' m.cn.length d', .slice V' m.vs.length e', .slice B' m.bs.length f']] w (RetV w (.bool true)) := by
  obtain ⟨mh, cn, vs, bs⟩ := m
  simp only
  obtain ⟨w3, hw3, hB3, hr3, hs3⟩ := any2_boxes w #[.int .i64 mh.kind, .int .i64 mh.frm, .int .i64 mh.to, .int .i64 mh.ballot, .int .i64 mh.slot, .int .i64 mh.blob, .int .i64 mh.index, .int .i64 mh.epoch, .int .i64 mh.id, .bool mh.ok, .int .i64 mh.cmd.id, .int .i64 mh.cmd.kind, .string mh.cmd.key, .int .i64 mh.cmd.blob, .int .i64 mh.cmd.other, .int .i64 mh.cmd.index, .int .i64 mh.cmd.node, .int .i64 mh.cmd.size, .int .u32 mh.cmd.sum, .int .i64 mh.cmd.k, .int .i64 mh.cmd.m, .slice A cn.length d, .slice V vs.length e, .slice B bs.length f] #[.int .i64 mh.kind, .int .i64 mh.frm, .int .i64 mh.to, .int .i64 mh.ballot, .int .i64 mh.slot, .int .i64 mh.blob, .int .i64 mh.index, .int .i64 mh.epoch, .int .i64 mh.id, .bool mh.ok, .int .i64 mh.cmd.id, .int .i64 mh.cmd.kind, .string mh.cmd.key, .int .i64 mh.cmd.blob, .int .i64 mh.cmd.other, .int .i64 mh.cmd.index, .int .i64 mh.cmd.node, .int .i64 mh.cmd.size, .int .u32 mh.cmd.sum, .int .i64 mh.cmd.k, .int .i64 mh.cmd.m, .slice A' cn.length d', .slice V' vs.length e', .slice B' bs.length f'] 40
  have HW := Lib.hid hw3
  have k1 := h1.below hB3
  have k2 := h2.below hB3
  have hcm : cn.length * 8 ≤ 140737488351232 := h1.cmax
  have HN := Lib.hid (psame_calls (w := w3) (c := mh.cmd) (a := d) (b := d') k1.cn k2.cn rfl (by simp only; omega))
  have K := Lib.hid (And.intro k1 k2)
  have he := mcells_of hr3
  obtain ⟨e0, e1, e2, e3, e4, e5, e6, e7, e8, e9, e10, e11, e12, e13, e14, e15, e16, e17, e18, e19, e20, e21, e22, e23⟩ := he
  have hz := mcells_of hs3
  obtain ⟨z0, z1, z2, z3, z4, z5, z6, z7, z8, z9, z10, z11, z12, z13, z14, z15, z16, z17, z18, z19, z20, z21, z22, z23⟩ := hz
  have HR := Lib.hid (And.intro hr3 hs3)
  rw [hw3] at e0 e1 e2 e3 e4 e5 e6 e7 e8 e9 e10 e11 e12 e13 e14 e15 e16 e17 e18 e19 e20 e21 e22 e23 z0 z1 z2 z3 z4 z5 z6 z7 z8 z9 z10 z11 z12 z13 z14 z15 z16 z17 z18 z19 z20 z21 z22 z23
  clear hw3 hr3 hs3 h1 h2 k1 k2 hcm
  go_enter Try.func18, Try.ntmps18
  go_wp2_with fail
  have hw3 := HW.out
  rw [← hw3]
  clear hw3 HW e0 e1 e2 e3 e4 e5 e6 e7 e8 e9 e10 e11 e12 e13 e14 e15 e16 e17 e18 e19 e20 e21 e22 e23 z0 z1 z2 z3 z4 z5 z6 z7 z8 z9 z10 z11 z12 z13 z14 z15 z16 z17 z18 z19 z20 z21 z22 z23
  refine HN.out.mono ?_
  rintro e1 w4 ⟨rfl, hb4⟩
  have hr4 := (hb4.block w.heap.size (Array.getElem?_eq_some_iff.1 HR.out.1).1).trans HR.out.1
  have hs4 := (hb4.block (w.heap.size + 1) (Array.getElem?_eq_some_iff.1 HR.out.2).1).trans HR.out.2
  have he := mcells_of hr4
  obtain ⟨e0, e1, e2, e3, e4, e5, e6, e7, e8, e9, e10, e11, e12, e13, e14, e15, e16, e17, e18, e19, e20, e21, e22, e23⟩ := he
  have hz := mcells_of hs4
  obtain ⟨z0, z1, z2, z3, z4, z5, z6, z7, z8, z9, z10, z11, z12, z13, z14, z15, z16, z17, z18, z19, z20, z21, z22, z23⟩ := hz
  have k1 := K.out.1.below hb4
  have k2 := K.out.2.below hb4
  obtain ⟨us, hv1, hv2⟩ := k1.vts
  obtain ⟨xs, hx1, hx2⟩ := k2.vts
  have HN2 := Lib.hid (eqvotes_calls (c := e) (d := e') hv1 hv2 hx1 hx2 k1.vmax)
  have K4 := Lib.hid (And.intro k1 k2)
  have HR4 := Lib.hid (And.intro hr4 hs4)
  have hB4 := hB3.trans (hb4.mono hB3.size)
  clear hr4 hs4 k1 k2 hv1 hv2 hx1 hx2 HN K HR hb4
  go_wp2_with fail
  clear e0 e1 e2 e3 e4 e5 e6 e7 e8 e9 e10 e11 e12 e13 e14 e15 e16 e17 e18 e19 e20 e21 e22 e23 z0 z1 z2 z3 z4 z5 z6 z7 z8 z9 z10 z11 z12 z13 z14 z15 z16 z17 z18 z19 z20 z21 z22 z23
  refine HN2.out.mono ?_
  rintro e1 w5 ⟨rfl, hb5⟩
  have hr5 := (hb5.block w.heap.size (Array.getElem?_eq_some_iff.1 HR4.out.1).1).trans HR4.out.1
  have hs5 := (hb5.block (w.heap.size + 1) (Array.getElem?_eq_some_iff.1 HR4.out.2).1).trans HR4.out.2
  have he := mcells_of hr5
  obtain ⟨e0, e1, e2, e3, e4, e5, e6, e7, e8, e9, e10, e11, e12, e13, e14, e15, e16, e17, e18, e19, e20, e21, e22, e23⟩ := he
  have hz := mcells_of hs5
  obtain ⟨z0, z1, z2, z3, z4, z5, z6, z7, z8, z9, z10, z11, z12, z13, z14, z15, z16, z17, z18, z19, z20, z21, z22, z23⟩ := hz
  have HN3 := Lib.hid (equal_calls (c := f) (d := f') (K4.out.1.below hb5).bs (K4.out.2.below hb5).bs rfl rfl)
  have hB5 := hB4.trans (hb5.mono hB4.size)
  clear hr5 hs5 K4 HR4 hb5 HN2
  go_wp2_with fail
  refine HN3.out.mono ?_
  rintro e1 w6 ⟨he, rfl⟩
  replace he : e1 = .returned (.bool true) := he.trans (by simp)
  subst he
  go_wp2_with fail
  go_ret
  exact ⟨by simp, hB5⟩
end Go.Proofs.Ytfcacplecapgfaa
