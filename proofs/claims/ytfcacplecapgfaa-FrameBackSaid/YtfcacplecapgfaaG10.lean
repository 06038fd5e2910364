/- Contracts: frame.whole at a message; frame.ReadMsg. -/
import Derived.Test.YtfcacplecapgfaaG9
namespace Go.Proofs.Ytfcacplecapgfaa
open Go.RowKit
set_option linter.unusedVariables false
set_option linter.unusedSimpArgs false

def zeroM : Mh := ⟨0, 0, 0, 0, 0, 0, 0, 0, 0, false, zeroC⟩
def zeroMg : Mg := ⟨zeroM, [], [], []⟩
/-- The one message that bytes are. -/
def oneM (l : List B8) : Option Mg := match readM l with | some (m, []) => some m | _ => none
def valM (o : Option Mg) : Mg := o.getD zeroMg
def errM (o : Option Mg) : Int := if o.isSome = true then 0 else 51
theorem mgown_zero (w : World) (B : Nat) : MgOwn w B none 0 none 0 none 0 zeroMg :=
  ⟨World.ownsRow_nil _ _ _ _, by decide, ⟨[], World.ownsRow_nil _ _ _ _, rfl⟩, by decide, World.ownsRow_nil _ _ _ _, by decide, ⟨by decide, by decide⟩⟩
/-- A message and an error are answered. -/
def RetM (w : World) (o : Option Mg) (e : Ending) (w' : World) : Prop :=
  ∃ (P : Option Addr) (e' : Nat) (V : Option Addr) (ev : Nat) (X : Option Addr) (f : Nat), e = .returned (.tuple #[.agg #[.int .i64 (valM o).h.kind, .int .i64 (valM o).h.frm, .int .i64 (valM o).h.to, .int .i64 (valM o).h.ballot, .int .i64 (valM o).h.slot, .int .i64 (valM o).h.blob, .int .i64 (valM o).h.index, .int .i64 (valM o).h.epoch, .int .i64 (valM o).h.id, .bool (valM o).h.ok, .int .i64 (valM o).h.cmd.id, .int .i64 (valM o).h.cmd.kind, .string (valM o).h.cmd.key, .int .i64 (valM o).h.cmd.blob, .int .i64 (valM o).h.cmd.other, .int .i64 (valM o).h.cmd.index, .int .i64 (valM o).h.cmd.node, .int .i64 (valM o).h.cmd.size, .int .u32 (valM o).h.cmd.sum, .int .i64 (valM o).h.cmd.k, .int .i64 (valM o).h.cmd.m, .slice P (valM o).cn.length e', .slice V (valM o).vs.length ev, .slice X (valM o).bs.length f], .int .i64 (errM o)]) ∧ Below w.heap.size w w' ∧ MgOwn w' w.heap.size P e' V ev X f (valM o)

set_option maxHeartbeats 4000000 in
set_option maxRecDepth 100000 in
theorem catchM_panic {w : World} {g g2 : Nat} {m : Mh} {cv vv bv : Value} {x : Int} (hg : w.heap[g]? = some (.cells #[.int .i64 m.kind, .int .i64 m.frm, .int .i64 m.to, .int .i64 m.ballot, .int .i64 m.slot, .int .i64 m.blob, .int .i64 m.index, .int .i64 m.epoch, .int .i64 m.id, .bool m.ok, .int .i64 m.cmd.id, .int .i64 m.cmd.kind, .string m.cmd.key, .int .i64 m.cmd.blob, .int .i64 m.cmd.other, .int .i64 m.cmd.index, .int .i64 m.cmd.node, .int .i64 m.cmd.size, .int .u32 m.cmd.sum, .int .i64 m.cmd.k, .int .i64 m.cmd.m, cv, vv, bv] 40 (0, 0))) (hg2 : w.heap[g2]? = some (.cells #[.int .i64 x] 29 (0, 0))) (hlt : g < g2) :
    CallsD Try.prog 54 #[.pointer (some ⟨g, 0, none⟩), .pointer (some ⟨g2, 0, none⟩)] (.panicking wrongCh) w fun e u' w' =>
      e = .returned (.tuple #[]) ∧ u' = .panicking caughtCh ∧ w'.heap[g]? = some (.cells #[.int .i64 zeroM.kind, .int .i64 zeroM.frm, .int .i64 zeroM.to, .int .i64 zeroM.ballot, .int .i64 zeroM.slot, .int .i64 zeroM.blob, .int .i64 zeroM.index, .int .i64 zeroM.epoch, .int .i64 zeroM.id, .bool zeroM.ok, .int .i64 zeroM.cmd.id, .int .i64 zeroM.cmd.kind, .string zeroM.cmd.key, .int .i64 zeroM.cmd.blob, .int .i64 zeroM.cmd.other, .int .i64 zeroM.cmd.index, .int .i64 zeroM.cmd.node, .int .i64 zeroM.cmd.size, .int .u32 zeroM.cmd.sum, .int .i64 zeroM.cmd.k, .int .i64 zeroM.cmd.m, .slice none 0 0, .slice none 0 0, .slice none 0 0] 40 (0, 0)) ∧ w'.heap[g2]? = some (.cells #[.int .i64 51] 29 (0, 0)) ∧ Below g w w' := by
  have hlt2 : g2 < w.heap.size := (Array.getElem?_eq_some_iff.1 hg2).1
  have hb1 := below1' w (.cells #[.int .i64 0, .int .i64 0, .int .i64 0, .int .i64 0, .int .i64 0, .int .i64 0, .int .i64 0, .int .i64 0, .int .i64 0, .bool false, .int .i64 0, .int .i64 0, .string ⟨#[]⟩, .int .i64 0, .int .i64 0, .int .i64 0, .int .i64 0, .int .i64 0, .int .u32 0, .int .i64 0, .int .i64 0, .slice none 0 0, .slice none 0 0, .slice none 0 0] 40)
  have hatZ : At (w.alloc (.cells #[.int .i64 0, .int .i64 0, .int .i64 0, .int .i64 0, .int .i64 0, .int .i64 0, .int .i64 0, .int .i64 0, .int .i64 0, .bool false, .int .i64 0, .int .i64 0, .string ⟨#[]⟩, .int .i64 0, .int .i64 0, .int .i64 0, .int .i64 0, .int .i64 0, .int .u32 0, .int .i64 0, .int .i64 0, .slice none 0 0, .slice none 0 0, .slice none 0 0] 40)) (some ⟨w.heap.size, 0, none⟩) [.int .i64 0, .int .i64 0, .int .i64 0, .int .i64 0, .int .i64 0, .int .i64 0, .int .i64 0, .int .i64 0, .int .i64 0, .bool false, .int .i64 0, .int .i64 0, .string ⟨#[]⟩, .int .i64 0, .int .i64 0, .int .i64 0, .int .i64 0, .int .i64 0, .int .u32 0, .int .i64 0, .int .i64 0, .slice none 0 0, .slice none 0 0, .slice none 0 0] := at_alloc w #[.int .i64 0, .int .i64 0, .int .i64 0, .int .i64 0, .int .i64 0, .int .i64 0, .int .i64 0, .int .i64 0, .int .i64 0, .bool false, .int .i64 0, .int .i64 0, .string ⟨#[]⟩, .int .i64 0, .int .i64 0, .int .i64 0, .int .i64 0, .int .i64 0, .int .u32 0, .int .i64 0, .int .i64 0, .slice none 0 0, .slice none 0 0, .slice none 0 0] 40 (0, 0)
  have hg1 := (hb1.block g (by omega)).trans hg
  have HG2 := Lib.hid ((hb1.block g2 (by omega)).trans hg2)
  have HB1 := Lib.hid hb1
  have hsz1 : g2 < (w.alloc (.cells #[.int .i64 0, .int .i64 0, .int .i64 0, .int .i64 0, .int .i64 0, .int .i64 0, .int .i64 0, .int .i64 0, .int .i64 0, .bool false, .int .i64 0, .int .i64 0, .string ⟨#[]⟩, .int .i64 0, .int .i64 0, .int .i64 0, .int .i64 0, .int .i64 0, .int .u32 0, .int .i64 0, .int .i64 0, .slice none 0 0, .slice none 0 0, .slice none 0 0] 40)).heap.size := by simp; omega
  clear hg hg2 hb1
  refine callsD_of_wpS Try.func54 rfl fun c₀ cs hu => ?_
  apply wpS_seq
  apply wpS_region
  simp [wpOpsS, go_sem, recoverD, hu, Try.ntmps54, Exit.thenS, wrongCh]
  refine wpS_of_wp ?_
  go_wp2_with (first
    | (refine wpList_load_at rfl 40 (.tmp 3) rfl rfl hatZ Try.underlying40 rfl (by kernel_rfl) ?_)
    | (refine wpList_put_at rfl 40 (.tmp 0) (.tmp 7) rfl g 0 [.int .i64 0, .int .i64 0, .int .i64 0, .int .i64 0, .int .i64 0, .int .i64 0, .int .i64 0, .int .i64 0, .int .i64 0, .bool false, .int .i64 0, .int .i64 0, .string ⟨#[]⟩, .int .i64 0, .int .i64 0, .int .i64 0, .int .i64 0, .int .i64 0, .int .u32 0, .int .i64 0, .int .i64 0, .slice none 0 0, .slice none 0 0, .slice none 0 0] rfl rfl 40 _ #[.int .i64 zeroM.kind, .int .i64 zeroM.frm, .int .i64 zeroM.to, .int .i64 zeroM.ballot, .int .i64 zeroM.slot, .int .i64 zeroM.blob, .int .i64 zeroM.index, .int .i64 zeroM.epoch, .int .i64 zeroM.id, .bool zeroM.ok, .int .i64 zeroM.cmd.id, .int .i64 zeroM.cmd.kind, .string zeroM.cmd.key, .int .i64 zeroM.cmd.blob, .int .i64 zeroM.cmd.other, .int .i64 zeroM.cmd.index, .int .i64 zeroM.cmd.node, .int .i64 zeroM.cmd.size, .int .u32 zeroM.cmd.sum, .int .i64 zeroM.cmd.k, .int .i64 zeroM.cmd.m, .slice none 0 0, .slice none 0 0, .slice none 0 0] hg1 (by kernel_rfl) (by show (24 : Nat) ≤ 24; decide) (msg_one zeroM none none none 0 0 0 0 0 0) rfl ?_; intro w2 hgr2 hgw2
       have hgw22 := (hgr2.block g2 hsz1 (by intro he; injection he with he; omega)).trans HG2.out
       have c20 := cell_of_row _ _ 0 _ _ (0, 0) hgw22
       have f20 := frozen_of_row _ g2 0 _ _ hgw22
       simp only [List.getElem?_toArray, List.getElem?_cons_zero] at c20))
  have hb2 : Below g w w2 := (HB1.out.mono (by omega)).trans ⟨hgr2.os, hgr2.tape, hgr2.output, hgr2.size, fun k hk => hgr2.block k (by omega) (by intro he; injection he with he; omega)⟩
  refine ⟨rfl, .panicking caughtCh, rfl, .tuple #[], by simp [results, Try.results54], rfl, rfl, ?_, ?_, ?_⟩
  · exact (heap_setCell_other w2 ⟨g2, 0, none⟩ g (.int .i64 51) (by simp; omega)).trans hgw2
  · exact heap_setCell_same w2 g2 0 _ _ (.int .i64 51) hgw22
  · exact hb2.setCell (by show g ≤ g2; omega) _
theorem catchM_idle (p q : Value) (w : World) :
    CallsD Try.prog 54 #[p, q] .returning w fun e u' w' => e = .returned (.tuple #[]) ∧ u' = .returning ∧ w' = w := by
  refine callsD_of_wpS Try.func54 rfl fun c₀ cs hu => ?_
  apply wpS_seq
  apply wpS_region
  simp [wpOpsS, go_sem, recoverD, hu, Try.ntmps54, Exit.thenS]
  refine wpS_of_wp ?_
  go_wp2_with fail
  cases c₀
  simp_all [bodyPostS, results, Try.results54]

set_option maxHeartbeats 8000000 in
set_option maxRecDepth 100000 in
theorem wholeM_calls {w : World} {A : Option Addr} {d : Nat} {l : List B8} (h : SlB w A d l) :
    Calls Try.prog 36 #[.slice A l.length d, .func (.func 37) #[] #[]] w (RetM w (oneM l)) := by
  have hmf : ∀ (fn : Fn) (first cap : Array Value) (w : World), (Instr.makeFunc fn first cap).run Try.prog w = .ok (.func fn first cap) w := fun _ _ _ _ => rfl
  obtain ⟨w3, hw3, hB3, hr3, he3, hd3, hz3⟩ := any3_boxes w (.cells #[.int .i64 0, .int .i64 0, .int .i64 0, .int .i64 0, .int .i64 0, .int .i64 0, .int .i64 0, .int .i64 0, .int .i64 0, .bool false, .int .i64 0, .int .i64 0, .string ⟨#[]⟩, .int .i64 0, .int .i64 0, .int .i64 0, .int .i64 0, .int .i64 0, .int .u32 0, .int .i64 0, .int .i64 0, .slice none 0 0, .slice none 0 0, .slice none 0 0] 40) (.cells #[.int .i64 0] 29) (.cells #[.slice A l.length d] 88)
  have hF3 : FdAt w3 (w.heap.size + 1 + 1) A d l := ⟨hd3, h.at'.below hB3, fun b off he => by have := (h.far _ he).2; simp only at this; omega, h.len, h.nil, fun a ha => (h.far a ha).1⟩
  have HW3 := Lib.hid hw3
  have HN1 := Lib.hid (fmsgR_calls hF3)
  clear hw3 h hF3 hd3
  generalize hor : readM l = o at HN1
  have HO := Lib.hid hor
  clear hor
  go_enter_defers Try.func36, Try.ntmps36
  go_wp2_with fail
  have hw3 := HW3.out
  rw [← hw3]
  clear hw3 HW3
  refine HN1.out.mono ?_
  rintro e w4 ⟨hgr, ⟨m, r, A', d', P, e', V, ev, X, f, ho, rfl, hF4, hown⟩ | ⟨ho, rfl⟩⟩
  · have hr4 := (hgr.block w.heap.size (by omega) (by intro he; injection he with he; omega)).trans hr3
    have he4 := (hgr.block (w.heap.size + 1) (by omega) (by intro he; injection he with he; omega)).trans he3
    have hB4 : Below w.heap.size w w4 := ⟨hgr.os.trans hB3.os, hgr.tape.trans hB3.tape, hgr.output.trans hB3.output, Nat.le_trans hB3.size hgr.size, fun k hk => (hgr.block k (by omega) (by intro he; injection he with he; omega)).trans (hB3.block k hk)⟩
    have hz4 := hgr.size
    have HE4 := Lib.hid he4
    have HB4 := Lib.hid hB4
    have HF4 := Lib.hid hF4
    have HOW := Lib.hid hown
    clear hown hF4 hgr he4 hr3 he3 hB3 hB4
    cases r with
    | cons y r =>
      have hon : Hid (oneM l = none) := by
        show oneM l = none
        unfold oneM; rw [HO.out, ho]
      have hpos : (0 : Int) < ((r.length + 1 : Nat) : Int) := by omega
      go_wp2_with (first
        | (refine wpList_put_at rfl 40 (.tmp 4) (.tmp 14) rfl w.heap.size 0 [.int .i64 m.h.kind, .int .i64 m.h.frm, .int .i64 m.h.to, .int .i64 m.h.ballot, .int .i64 m.h.slot, .int .i64 m.h.blob, .int .i64 m.h.index, .int .i64 m.h.epoch, .int .i64 m.h.id, .bool m.h.ok, .int .i64 m.h.cmd.id, .int .i64 m.h.cmd.kind, .string m.h.cmd.key, .int .i64 m.h.cmd.blob, .int .i64 m.h.cmd.other, .int .i64 m.h.cmd.index, .int .i64 m.h.cmd.node, .int .i64 m.h.cmd.size, .int .u32 m.h.cmd.sum, .int .i64 m.h.cmd.k, .int .i64 m.h.cmd.m, .slice P m.cn.length e', .slice V m.vs.length ev, .slice X m.bs.length f] rfl rfl 40 _ #[.int .i64 m.h.kind, .int .i64 m.h.frm, .int .i64 m.h.to, .int .i64 m.h.ballot, .int .i64 m.h.slot, .int .i64 m.h.blob, .int .i64 m.h.index, .int .i64 m.h.epoch, .int .i64 m.h.id, .bool m.h.ok, .int .i64 m.h.cmd.id, .int .i64 m.h.cmd.kind, .string m.h.cmd.key, .int .i64 m.h.cmd.blob, .int .i64 m.h.cmd.other, .int .i64 m.h.cmd.index, .int .i64 m.h.cmd.node, .int .i64 m.h.cmd.size, .int .u32 m.h.cmd.sum, .int .i64 m.h.cmd.k, .int .i64 m.h.cmd.m, .slice P m.cn.length e', .slice V m.vs.length ev, .slice X m.bs.length f] hr4 (by kernel_rfl) (by show (24 : Nat) ≤ 24; decide) (msg_one m.h P V X m.cn.length e' m.vs.length ev m.bs.length f) rfl ?_; intro w5 hgr5 hg5
           have hz5 := hgr5.size
           have hrd := cell_of_row _ _ 0 _ _ (0, 0) ((hgr5.block (w.heap.size + 1 + 1) (by omega) (by intro he; injection he with he; omega)).trans HF4.out.hd)
           simp only [List.getElem?_toArray, List.getElem?_cons_zero, List.length_cons] at hrd))
      have he5 := (hgr5.block (w.heap.size + 1) (by omega) (by intro he; injection he with he; omega)).trans HE4.out
      have hB5 : Below w.heap.size w w5 := HB4.out.trans ⟨hgr5.os, hgr5.tape, hgr5.output, hgr5.size, fun k hk => hgr5.block k (by omega) (by intro he; injection he with he; omega)⟩
      refine leaves_cons (f := 54) (args := #[.pointer (some ⟨w.heap.size, 0, none⟩), .pointer (some ⟨w.heap.size + 1, 0, none⟩)]) (by simp) (by simp [go_sem]) ?_
      refine (catchM_panic hg5 he5 (by omega)).mono ?_
      rintro e u' w8 ⟨rfl, rfl, hg8, he8, hb8⟩
      have hc8 := cell_of_row _ _ 0 _ _ (0, 0) he8
      simp only [List.getElem?_toArray, List.getElem?_cons_zero] at hc8
      refine ⟨_, results_row_int rfl _ _ w.heap.size (w.heap.size + 1) 40 _ (0, 0) _ (.int .i64 51) rfl hg8 Try.underlying40 rfl (by kernel_rfl) rfl hc8 Try.underlying29, ?_⟩
      exact ⟨none, 0, none, 0, none, 0, by rw [hon.out]; rfl, (hB5).trans hb8, by rw [hon.out]; exact mgown_zero _ _⟩
    | nil =>
      have hon : Hid (oneM l = some m) := by
        show oneM l = some m
        unfold oneM; rw [HO.out, ho]
      go_wp2_with (first
        | (refine wpList_put_at rfl 40 (.tmp 4) (.tmp 14) rfl w.heap.size 0 [.int .i64 m.h.kind, .int .i64 m.h.frm, .int .i64 m.h.to, .int .i64 m.h.ballot, .int .i64 m.h.slot, .int .i64 m.h.blob, .int .i64 m.h.index, .int .i64 m.h.epoch, .int .i64 m.h.id, .bool m.h.ok, .int .i64 m.h.cmd.id, .int .i64 m.h.cmd.kind, .string m.h.cmd.key, .int .i64 m.h.cmd.blob, .int .i64 m.h.cmd.other, .int .i64 m.h.cmd.index, .int .i64 m.h.cmd.node, .int .i64 m.h.cmd.size, .int .u32 m.h.cmd.sum, .int .i64 m.h.cmd.k, .int .i64 m.h.cmd.m, .slice P m.cn.length e', .slice V m.vs.length ev, .slice X m.bs.length f] rfl rfl 40 _ #[.int .i64 m.h.kind, .int .i64 m.h.frm, .int .i64 m.h.to, .int .i64 m.h.ballot, .int .i64 m.h.slot, .int .i64 m.h.blob, .int .i64 m.h.index, .int .i64 m.h.epoch, .int .i64 m.h.id, .bool m.h.ok, .int .i64 m.h.cmd.id, .int .i64 m.h.cmd.kind, .string m.h.cmd.key, .int .i64 m.h.cmd.blob, .int .i64 m.h.cmd.other, .int .i64 m.h.cmd.index, .int .i64 m.h.cmd.node, .int .i64 m.h.cmd.size, .int .u32 m.h.cmd.sum, .int .i64 m.h.cmd.k, .int .i64 m.h.cmd.m, .slice P m.cn.length e', .slice V m.vs.length ev, .slice X m.bs.length f] hr4 (by kernel_rfl) (by show (24 : Nat) ≤ 24; decide) (msg_one m.h P V X m.cn.length e' m.vs.length ev m.bs.length f) rfl ?_; intro w5 hgr5 hg5
           have hz5 := hgr5.size
           have hrd := cell_of_row _ _ 0 _ _ (0, 0) ((hgr5.block (w.heap.size + 1 + 1) (by omega) (by intro he; injection he with he; omega)).trans HF4.out.hd)
           simp only [List.getElem?_toArray, List.getElem?_cons_zero, List.length_nil] at hrd
           have hat5 : At w5 (some ⟨w.heap.size, 0, none⟩) [.int .i64 m.h.kind, .int .i64 m.h.frm, .int .i64 m.h.to, .int .i64 m.h.ballot, .int .i64 m.h.slot, .int .i64 m.h.blob, .int .i64 m.h.index, .int .i64 m.h.epoch, .int .i64 m.h.id, .bool m.h.ok, .int .i64 m.h.cmd.id, .int .i64 m.h.cmd.kind, .string m.h.cmd.key, .int .i64 m.h.cmd.blob, .int .i64 m.h.cmd.other, .int .i64 m.h.cmd.index, .int .i64 m.h.cmd.node, .int .i64 m.h.cmd.size, .int .u32 m.h.cmd.sum, .int .i64 m.h.cmd.k, .int .i64 m.h.cmd.m, .slice P m.cn.length e', .slice V m.vs.length ev, .slice X m.bs.length f] := at_cells hg5)
        | (refine wpList_load_at rfl 40 (.tmp 4) rfl rfl hat5 Try.underlying40 rfl (by kernel_rfl) ?_)
        | (refine wpList_put_at rfl 40 (.tmp 4) (.tmp 24) rfl w.heap.size 0 [.int .i64 m.h.kind, .int .i64 m.h.frm, .int .i64 m.h.to, .int .i64 m.h.ballot, .int .i64 m.h.slot, .int .i64 m.h.blob, .int .i64 m.h.index, .int .i64 m.h.epoch, .int .i64 m.h.id, .bool m.h.ok, .int .i64 m.h.cmd.id, .int .i64 m.h.cmd.kind, .string m.h.cmd.key, .int .i64 m.h.cmd.blob, .int .i64 m.h.cmd.other, .int .i64 m.h.cmd.index, .int .i64 m.h.cmd.node, .int .i64 m.h.cmd.size, .int .u32 m.h.cmd.sum, .int .i64 m.h.cmd.k, .int .i64 m.h.cmd.m, .slice P m.cn.length e', .slice V m.vs.length ev, .slice X m.bs.length f] rfl rfl 40 _ #[.int .i64 m.h.kind, .int .i64 m.h.frm, .int .i64 m.h.to, .int .i64 m.h.ballot, .int .i64 m.h.slot, .int .i64 m.h.blob, .int .i64 m.h.index, .int .i64 m.h.epoch, .int .i64 m.h.id, .bool m.h.ok, .int .i64 m.h.cmd.id, .int .i64 m.h.cmd.kind, .string m.h.cmd.key, .int .i64 m.h.cmd.blob, .int .i64 m.h.cmd.other, .int .i64 m.h.cmd.index, .int .i64 m.h.cmd.node, .int .i64 m.h.cmd.size, .int .u32 m.h.cmd.sum, .int .i64 m.h.cmd.k, .int .i64 m.h.cmd.m, .slice P m.cn.length e', .slice V m.vs.length ev, .slice X m.bs.length f] hg5 (by kernel_rfl) (by show (24 : Nat) ≤ 24; decide) (msg_one m.h P V X m.cn.length e' m.vs.length ev m.bs.length f) rfl ?_; intro w6 hgr6 hg6
           have hz6 := hgr6.size
           have he6 := (hgr6.block (w.heap.size + 1) (by omega) (by intro he; injection he with he; omega)).trans ((hgr5.block (w.heap.size + 1) (by omega) (by intro he; injection he with he; omega)).trans HE4.out)
           have ce := cell_of_row _ _ 0 _ _ (0, 0) he6
           have fe := frozen_of_row _ (w.heap.size + 1) 0 _ _ he6
           simp only [List.getElem?_toArray, List.getElem?_cons_zero] at ce))
      refine leaves_cons (f := 54) (args := #[.pointer (some ⟨w.heap.size, 0, none⟩), .pointer (some ⟨w.heap.size + 1, 0, none⟩)]) (by simp) (by simp [go_sem]) ?_
      refine (catchM_idle _ _ _).mono ?_
      rintro e u' w8 ⟨rfl, rfl, rfl⟩
      have hg8 := (heap_setCell_other w6 ⟨w.heap.size + 1, 0, none⟩ w.heap.size (.int .i64 0) (by simp)).trans hg6
      have he8 : (w6.setCell ⟨w.heap.size + 1, 0, none⟩ (.int .i64 0)).heap[w.heap.size + 1]? = some (.cells #[.int .i64 0] 29 (0, 0)) := heap_setCell_same w6 (w.heap.size + 1) 0 _ _ (.int .i64 0) he6
      have hc8 := cell_of_row _ _ 0 _ _ (0, 0) he8
      simp only [List.getElem?_toArray, List.getElem?_cons_zero] at hc8
      have hB6 : Below w.heap.size w w6 := (HB4.out.trans ⟨hgr5.os, hgr5.tape, hgr5.output, hgr5.size, fun k hk => hgr5.block k (by omega) (by intro he; injection he with he; omega)⟩).trans ⟨hgr6.os, hgr6.tape, hgr6.output, hgr6.size, fun k hk => hgr6.block k (by omega) (by intro he; injection he with he; omega)⟩
      refine ⟨_, results_row_int rfl _ _ w.heap.size (w.heap.size + 1) 40 _ (0, 0) _ (.int .i64 0) rfl hg8 Try.underlying40 rfl (by kernel_rfl) rfl hc8 Try.underlying29, ?_⟩
      refine ⟨P, e', V, ev, X, f, by rw [hon.out]; rfl, hB6.setCell (by show w.heap.size ≤ w.heap.size + 1; omega) _, ?_⟩
      rw [hon.out]
      exact (HOW.out.map (fun T sz v n xs h => ownsRow_setCell_below (own_keep (own_keep h hgr5 (by omega)) hgr6 (by omega)) (show w.heap.size + 1 < w3.heap.size by omega) _)).lower (by omega)
  · go_wp2_with fail
    have hon : Hid (oneM l = none) := by
      show oneM l = none
      unfold oneM; rw [HO.out, ho]
    have hr4 := (hgr.block w.heap.size (by omega) (by intro he; injection he with he; omega)).trans hr3
    have he4 := (hgr.block (w.heap.size + 1) (by omega) (by intro he; injection he with he; omega)).trans he3
    have hB4 : Below w.heap.size w w4 := ⟨hgr.os.trans hB3.os, hgr.tape.trans hB3.tape, hgr.output.trans hB3.output, Nat.le_trans hB3.size hgr.size, fun k hk => (hgr.block k (by omega) (by intro he; injection he with he; omega)).trans (hB3.block k hk)⟩
    refine leaves_cons (f := 54) (args := #[.pointer (some ⟨w.heap.size, 0, none⟩), .pointer (some ⟨w.heap.size + 1, 0, none⟩)]) (by simp) (by simp [go_sem]) ?_
    refine (catchM_panic (m := zeroM) (cv := .slice none 0 0) (vv := .slice none 0 0) (bv := .slice none 0 0) hr4 he4 (by omega)).mono ?_
    rintro e u' w8 ⟨rfl, rfl, hg8, he8, hb8⟩
    have hc8 := cell_of_row _ _ 0 _ _ (0, 0) he8
    simp only [List.getElem?_toArray, List.getElem?_cons_zero] at hc8
    refine ⟨_, results_row_int rfl _ _ w.heap.size (w.heap.size + 1) 40 _ (0, 0) _ (.int .i64 51) rfl hg8 Try.underlying40 rfl (by kernel_rfl) rfl hc8 Try.underlying29, ?_⟩
    exact ⟨none, 0, none, 0, none, 0, by rw [hon.out]; rfl, (hB4).trans hb8, by rw [hon.out]; exact mgown_zero _ _⟩

set_option maxHeartbeats 4000000 in
set_option maxRecDepth 100000 in
theorem readMsg_calls {w : World} {A : Option Addr} {d : Nat} {l : List B8} (h : SlB w A d l) :
    Calls Try.prog 14 #[.slice A l.length d] w (RetM w (oneM l)) := by
  obtain ⟨w1, hw1, hb1, h1, hs1⟩ := any_box w #[.int .i64 0, .int .i64 0, .int .i64 0, .int .i64 0, .int .i64 0, .int .i64 0, .int .i64 0, .int .i64 0, .int .i64 0, .bool false, .int .i64 0, .int .i64 0, .string ⟨#[]⟩, .int .i64 0, .int .i64 0, .int .i64 0, .int .i64 0, .int .i64 0, .int .u32 0, .int .i64 0, .int .i64 0, .slice none 0 0, .slice none 0 0, .slice none 0 0] 40
  have hS1 := h.below hb1
  have HW := Lib.hid hw1
  have HN := Lib.hid (wholeM_calls hS1)
  clear hw1 h hS1
  generalize oneM l = o at *
  go_enter Try.func14, Try.ntmps14
  go_wp2_with fail
  have hw1 := HW.out
  rw [← hw1]
  clear hw1 HW
  refine HN.out.mono ?_
  rintro e w2 ⟨P, e', V, ev, X, f, rfl, hb2, hown⟩
  have hr2 := (hb2.block w.heap.size (by omega)).trans h1
  have HB2 := Lib.hid (hb1.trans (hb2.mono (by omega)))
  have HOW := Lib.hid hown
  clear hown h1 hb1 hb2 HN
  go_wp2_with (refine wpList_put_at rfl 40 (.tmp 2) (.tmp 6) rfl w.heap.size 0 [.int .i64 (valM o).h.kind, .int .i64 (valM o).h.frm, .int .i64 (valM o).h.to, .int .i64 (valM o).h.ballot, .int .i64 (valM o).h.slot, .int .i64 (valM o).h.blob, .int .i64 (valM o).h.index, .int .i64 (valM o).h.epoch, .int .i64 (valM o).h.id, .bool (valM o).h.ok, .int .i64 (valM o).h.cmd.id, .int .i64 (valM o).h.cmd.kind, .string (valM o).h.cmd.key, .int .i64 (valM o).h.cmd.blob, .int .i64 (valM o).h.cmd.other, .int .i64 (valM o).h.cmd.index, .int .i64 (valM o).h.cmd.node, .int .i64 (valM o).h.cmd.size, .int .u32 (valM o).h.cmd.sum, .int .i64 (valM o).h.cmd.k, .int .i64 (valM o).h.cmd.m, .slice P (valM o).cn.length e', .slice V (valM o).vs.length ev, .slice X (valM o).bs.length f] rfl rfl 40 _ #[.int .i64 (valM o).h.kind, .int .i64 (valM o).h.frm, .int .i64 (valM o).h.to, .int .i64 (valM o).h.ballot, .int .i64 (valM o).h.slot, .int .i64 (valM o).h.blob, .int .i64 (valM o).h.index, .int .i64 (valM o).h.epoch, .int .i64 (valM o).h.id, .bool (valM o).h.ok, .int .i64 (valM o).h.cmd.id, .int .i64 (valM o).h.cmd.kind, .string (valM o).h.cmd.key, .int .i64 (valM o).h.cmd.blob, .int .i64 (valM o).h.cmd.other, .int .i64 (valM o).h.cmd.index, .int .i64 (valM o).h.cmd.node, .int .i64 (valM o).h.cmd.size, .int .u32 (valM o).h.cmd.sum, .int .i64 (valM o).h.cmd.k, .int .i64 (valM o).h.cmd.m, .slice P (valM o).cn.length e', .slice V (valM o).vs.length ev, .slice X (valM o).bs.length f] hr2 (by kernel_rfl) (by show (24 : Nat) ≤ 24; decide) (msg_one (valM o).h P V X (valM o).cn.length e' (valM o).vs.length ev (valM o).bs.length f) rfl ?_; intro w5 hgr5 hg5)
  refine bodyPost_ret (results_row_tmp rfl _ _ w.heap.size 40 #[.int .i64 (valM o).h.kind, .int .i64 (valM o).h.frm, .int .i64 (valM o).h.to, .int .i64 (valM o).h.ballot, .int .i64 (valM o).h.slot, .int .i64 (valM o).h.blob, .int .i64 (valM o).h.index, .int .i64 (valM o).h.epoch, .int .i64 (valM o).h.id, .bool (valM o).h.ok, .int .i64 (valM o).h.cmd.id, .int .i64 (valM o).h.cmd.kind, .string (valM o).h.cmd.key, .int .i64 (valM o).h.cmd.blob, .int .i64 (valM o).h.cmd.other, .int .i64 (valM o).h.cmd.index, .int .i64 (valM o).h.cmd.node, .int .i64 (valM o).h.cmd.size, .int .u32 (valM o).h.cmd.sum, .int .i64 (valM o).h.cmd.k, .int .i64 (valM o).h.cmd.m, .slice P (valM o).cn.length e', .slice V (valM o).vs.length ev, .slice X (valM o).bs.length f] (0, 0) _ rfl hg5 Try.underlying40 rfl (by kernel_rfl)) rfl ?_
  exact ⟨P, e', V, ev, X, f, rfl, HB2.out.trans ⟨hgr5.os, hgr5.tape, hgr5.output, hgr5.size, fun k hk => hgr5.block k (by have := HB2.out.size; omega) (by intro he; injection he with he; omega)⟩,
    (HOW.out.map (fun T sz v n xs h => own_keep h hgr5 (by omega))).lower (by omega)⟩
end Go.Proofs.Ytfcacplecapgfaa
