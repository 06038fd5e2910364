/- Contract of the law FrameMsgs itself. -/
import Derived.Test.YtfcacplecapgfaaG15
import Derived.Test.YtfcacplecapgfaaG17
namespace Go.Proofs.Ytfcacplecapgfaa
open Go.RowKit
set_option linter.unusedVariables false
set_option linter.unusedSimpArgs false

/-- What Msg answers. -/
def encM (m : Mg) : List B8 := if mayM m = true then msgB m else []
def encME (m : Mg) : Int := if mayM m = true then 0 else 1
theorem fmsg_calls {w : World} {m : Mg} {A V B : Option Addr} {d e f : Nat} (h : MgAt w A d V B f m) :
    Calls Try.prog 16 #[.agg #[.int .i64 m.h.kind, .int .i64 m.h.frm, .int .i64 m.h.to, .int .i64 m.h.ballot, .int .i64 m.h.slot, .int .i64 m.h.blob, .int .i64 m.h.index, .int .i64 m.h.epoch, .int .i64 m.h.id, .bool m.h.ok, .int .i64 m.h.cmd.id, .int .i64 m.h.cmd.kind, .string m.h.cmd.key, .int .i64 m.h.cmd.blob, .int .i64 m.h.cmd.other, .int .i64 m.h.cmd.index, .int .i64 m.h.cmd.node, .int .i64 m.h.cmd.size, .int .u32 m.h.cmd.sum, .int .i64 m.h.cmd.k, .int .i64 m.h.cmd.m, .slice A m.cn.length d, .slice V m.vs.length e, .slice B m.bs.length f]] w (RetBy w (encM m) (encME m)) := by
  unfold encM encME
  by_cases hm : mayM m = true
  · rw [if_pos hm, if_pos hm]
    refine (fmsg_good h hm).mono ?_
    rintro e1 w' ⟨A', c', rfl, ho, hb⟩
    exact ⟨A', c', rfl, own_at ho, hb⟩
  · rw [if_neg hm, if_neg hm]
    refine (fmsg_bad h (by simpa using hm)).mono ?_
    rintro e1 w' ⟨rfl, hb⟩
    exact ⟨none, 0, rfl, fun i x hx => (by simp [bys] at hx), hb⟩
theorem rmsg_calls {w : World} {m : Mg} {A V B : Option Addr} {d e f : Nat} (h : MgAt w A d V B f m) :
    Calls Try.prog 17 #[.agg #[.int .i64 m.h.kind, .int .i64 m.h.frm, .int .i64 m.h.to, .int .i64 m.h.ballot, .int .i64 m.h.slot, .int .i64 m.h.blob, .int .i64 m.h.index, .int .i64 m.h.epoch, .int .i64 m.h.id, .bool m.h.ok, .int .i64 m.h.cmd.id, .int .i64 m.h.cmd.kind, .string m.h.cmd.key, .int .i64 m.h.cmd.blob, .int .i64 m.h.cmd.other, .int .i64 m.h.cmd.index, .int .i64 m.h.cmd.node, .int .i64 m.h.cmd.size, .int .u32 m.h.cmd.sum, .int .i64 m.h.cmd.k, .int .i64 m.h.cmd.m, .slice A m.cn.length d, .slice V m.vs.length e, .slice B m.bs.length f]] w (RetBy w (encM m) (encME m)) := by
  unfold encM encME
  by_cases hm : mayM m = true
  · rw [if_pos hm, if_pos hm]
    exact rmsg_good h hm
  · rw [if_neg hm, if_neg hm]
    refine (rmsg_bad h (by simpa using hm)).mono ?_
    rintro e1 w' ⟨rfl, hb⟩
    exact ⟨none, 0, rfl, fun i x hx => (by simp [bys] at hx), hb⟩

set_option maxHeartbeats 16000000 in
set_option maxRecDepth 100000 in
theorem frameMsgs_calls {w : World} {m : Mg} {A V X B : Option Addr} {n e f d : Nat} {l : List B8} (hM : MgAt w A n V X f m) (hB : SlB w B d l) :
    Calls Try.prog 5 #[.agg #[.int .i64 m.h.kind, .int .i64 m.h.frm, .int .i64 m.h.to, .int .i64 m.h.ballot, .int .i64 m.h.slot, .int .i64 m.h.blob, .int .i64 m.h.index, .int .i64 m.h.epoch, .int .i64 m.h.id, .bool m.h.ok, .int .i64 m.h.cmd.id, .int .i64 m.h.cmd.kind, .string m.h.cmd.key, .int .i64 m.h.cmd.blob, .int .i64 m.h.cmd.other, .int .i64 m.h.cmd.index, .int .i64 m.h.cmd.node, .int .i64 m.h.cmd.size, .int .u32 m.h.cmd.sum, .int .i64 m.h.cmd.k, .int .i64 m.h.cmd.m, .slice A m.cn.length n, .slice V m.vs.length e, .slice X m.bs.length f], .slice B l.length d] w (RetV w (.bool true)) := by
  have C1 : ∀ w : World, MgAt w A n V X f m → Calls Try.prog 16 #[.agg #[.int .i64 m.h.kind, .int .i64 m.h.frm, .int .i64 m.h.to, .int .i64 m.h.ballot, .int .i64 m.h.slot, .int .i64 m.h.blob, .int .i64 m.h.index, .int .i64 m.h.epoch, .int .i64 m.h.id, .bool m.h.ok, .int .i64 m.h.cmd.id, .int .i64 m.h.cmd.kind, .string m.h.cmd.key, .int .i64 m.h.cmd.blob, .int .i64 m.h.cmd.other, .int .i64 m.h.cmd.index, .int .i64 m.h.cmd.node, .int .i64 m.h.cmd.size, .int .u32 m.h.cmd.sum, .int .i64 m.h.cmd.k, .int .i64 m.h.cmd.m, .slice A m.cn.length n, .slice V m.vs.length e, .slice X m.bs.length f]] w (RetBy w (encM m) (encME m)) := fun w h => fmsg_calls h
  have C2 : ∀ w : World, MgAt w A n V X f m → Calls Try.prog 17 #[.agg #[.int .i64 m.h.kind, .int .i64 m.h.frm, .int .i64 m.h.to, .int .i64 m.h.ballot, .int .i64 m.h.slot, .int .i64 m.h.blob, .int .i64 m.h.index, .int .i64 m.h.epoch, .int .i64 m.h.id, .bool m.h.ok, .int .i64 m.h.cmd.id, .int .i64 m.h.cmd.kind, .string m.h.cmd.key, .int .i64 m.h.cmd.blob, .int .i64 m.h.cmd.other, .int .i64 m.h.cmd.index, .int .i64 m.h.cmd.node, .int .i64 m.h.cmd.size, .int .u32 m.h.cmd.sum, .int .i64 m.h.cmd.k, .int .i64 m.h.cmd.m, .slice A m.cn.length n, .slice V m.vs.length e, .slice X m.bs.length f]] w (RetBy w (encM m) (encME m)) := fun w h => rmsg_calls h
  have C3 : ∀ w : World, SlB w B d l → Calls Try.prog 14 #[.slice B l.length d] w (RetM w (oneM l)) := fun w h => readMsg_calls h
  have C4 : ∀ w : World, SlB w B d l → Calls Try.prog 15 #[.slice B l.length d] w (RetM w (oneM l)) := fun w h => rreadMsg_calls h
  generalize encM m = xs at C1 C2
  generalize encME m = k1 at C1 C2
  generalize oneM l = oM at C3 C4
  have HC1 := Lib.hid C1
  have HC2 := Lib.hid C2
  have HC3 := Lib.hid C3
  have HC4 := Lib.hid C4
  clear C1 C2 C3 C4
  obtain ⟨k2, hk2⟩ : ∃ k2, k2 = errM oM := ⟨_, rfl⟩
  obtain ⟨wb, hwb, hBb, hrb, hzb⟩ := any_box w #[.int .i64 m.h.kind, .int .i64 m.h.frm, .int .i64 m.h.to, .int .i64 m.h.ballot, .int .i64 m.h.slot, .int .i64 m.h.blob, .int .i64 m.h.index, .int .i64 m.h.epoch, .int .i64 m.h.id, .bool m.h.ok, .int .i64 m.h.cmd.id, .int .i64 m.h.cmd.kind, .string m.h.cmd.key, .int .i64 m.h.cmd.blob, .int .i64 m.h.cmd.other, .int .i64 m.h.cmd.index, .int .i64 m.h.cmd.node, .int .i64 m.h.cmd.size, .int .u32 m.h.cmd.sum, .int .i64 m.h.cmd.k, .int .i64 m.h.cmd.m, .slice A m.cn.length n, .slice V m.vs.length e, .slice X m.bs.length f] 40
  have HW := Lib.hid hwb
  have HM := Lib.hid (hM.below hBb)
  have HB := Lib.hid (hB.below hBb)
  have hatM : At (w.alloc (.cells #[.int .i64 m.h.kind, .int .i64 m.h.frm, .int .i64 m.h.to, .int .i64 m.h.ballot, .int .i64 m.h.slot, .int .i64 m.h.blob, .int .i64 m.h.index, .int .i64 m.h.epoch, .int .i64 m.h.id, .bool m.h.ok, .int .i64 m.h.cmd.id, .int .i64 m.h.cmd.kind, .string m.h.cmd.key, .int .i64 m.h.cmd.blob, .int .i64 m.h.cmd.other, .int .i64 m.h.cmd.index, .int .i64 m.h.cmd.node, .int .i64 m.h.cmd.size, .int .u32 m.h.cmd.sum, .int .i64 m.h.cmd.k, .int .i64 m.h.cmd.m, .slice A m.cn.length n, .slice V m.vs.length e, .slice X m.bs.length f] 40)) (some ⟨w.heap.size, 0, none⟩) [.int .i64 m.h.kind, .int .i64 m.h.frm, .int .i64 m.h.to, .int .i64 m.h.ballot, .int .i64 m.h.slot, .int .i64 m.h.blob, .int .i64 m.h.index, .int .i64 m.h.epoch, .int .i64 m.h.id, .bool m.h.ok, .int .i64 m.h.cmd.id, .int .i64 m.h.cmd.kind, .string m.h.cmd.key, .int .i64 m.h.cmd.blob, .int .i64 m.h.cmd.other, .int .i64 m.h.cmd.index, .int .i64 m.h.cmd.node, .int .i64 m.h.cmd.size, .int .u32 m.h.cmd.sum, .int .i64 m.h.cmd.k, .int .i64 m.h.cmd.m, .slice A m.cn.length n, .slice V m.vs.length e, .slice X m.bs.length f] := at_alloc w #[.int .i64 m.h.kind, .int .i64 m.h.frm, .int .i64 m.h.to, .int .i64 m.h.ballot, .int .i64 m.h.slot, .int .i64 m.h.blob, .int .i64 m.h.index, .int .i64 m.h.epoch, .int .i64 m.h.id, .bool m.h.ok, .int .i64 m.h.cmd.id, .int .i64 m.h.cmd.kind, .string m.h.cmd.key, .int .i64 m.h.cmd.blob, .int .i64 m.h.cmd.other, .int .i64 m.h.cmd.index, .int .i64 m.h.cmd.node, .int .i64 m.h.cmd.size, .int .u32 m.h.cmd.sum, .int .i64 m.h.cmd.k, .int .i64 m.h.cmd.m, .slice A m.cn.length n, .slice V m.vs.length e, .slice X m.bs.length f] 40 (0, 0)
  have HR := Lib.hid hrb
  clear hwb hM hB hrb
  go_enter Try.func5, Try.ntmps5
  go_wp2_with (refine wpList_load_at rfl 40 (.tmp 2) rfl rfl hatM Try.underlying40 rfl (by kernel_rfl) ?_)
  have hwb := HW.out
  rw [← hwb]
  clear hwb HW hatM
  refine (HC1.out _ HM.out).mono ?_
  rintro e1 v1 ⟨X1, q1, rfl, hx1, hb1⟩
  have HM1 := Lib.hid (HM.out.below hb1)
  have HB1 := Lib.hid (HB.out.below hb1)
  have hat1 : At v1 (some ⟨w.heap.size, 0, none⟩) [.int .i64 m.h.kind, .int .i64 m.h.frm, .int .i64 m.h.to, .int .i64 m.h.ballot, .int .i64 m.h.slot, .int .i64 m.h.blob, .int .i64 m.h.index, .int .i64 m.h.epoch, .int .i64 m.h.id, .bool m.h.ok, .int .i64 m.h.cmd.id, .int .i64 m.h.cmd.kind, .string m.h.cmd.key, .int .i64 m.h.cmd.blob, .int .i64 m.h.cmd.other, .int .i64 m.h.cmd.index, .int .i64 m.h.cmd.node, .int .i64 m.h.cmd.size, .int .u32 m.h.cmd.sum, .int .i64 m.h.cmd.k, .int .i64 m.h.cmd.m, .slice A m.cn.length n, .slice V m.vs.length e, .slice X m.bs.length f] := at_cells ((hb1.block w.heap.size (by omega)).trans HR.out)
  have hBe1 := hBb.trans (hb1.mono (by omega))
  have hzv1 := hb1.size
  clear hb1 HM HB HR HC1
  go_wp2_with (refine wpList_load_at rfl 40 (.tmp 2) rfl rfl hat1 Try.underlying40 rfl (by kernel_rfl) ?_)
  refine (HC2.out _ HM1.out).mono ?_
  rintro e1 v2 ⟨X2, q2, rfl, hx2, hb2⟩
  have HX2 := Lib.hid (And.intro (hx1.below hb2) hx2)
  have HB2 := Lib.hid (HB1.out.below hb2)
  have hBe2 := hBe1.trans (hb2.mono hBe1.size)
  clear hb2 hx1 hx2 HM1 HB1 HC2 hat1
  go_wp2_with fail
  refine (HC3.out _ HB2.out).mono ?_
  rintro e1 w1 ⟨aP, ae, aV, av, aX, af, rfl, hb1, hm1⟩
  have hz1 := hb1.size
  have hgz1 : (w1.alloc (.cells #[.int .i64 0, .int .i64 0, .int .i64 0, .int .i64 0, .int .i64 0, .int .i64 0, .int .i64 0, .int .i64 0, .int .i64 0, .bool false, .int .i64 0, .int .i64 0, .string ⟨#[]⟩, .int .i64 0, .int .i64 0, .int .i64 0, .int .i64 0, .int .i64 0, .int .u32 0, .int .i64 0, .int .i64 0, .slice none 0 0, .slice none 0 0, .slice none 0 0] 40)).heap[w1.heap.size]? = some (.cells #[.int .i64 0, .int .i64 0, .int .i64 0, .int .i64 0, .int .i64 0, .int .i64 0, .int .i64 0, .int .i64 0, .int .i64 0, .bool false, .int .i64 0, .int .i64 0, .string ⟨#[]⟩, .int .i64 0, .int .i64 0, .int .i64 0, .int .i64 0, .int .i64 0, .int .u32 0, .int .i64 0, .int .i64 0, .slice none 0 0, .slice none 0 0, .slice none 0 0] 40 (0, 0)) := heap_alloc_new w1 _
  have hbz1 := below1' w1 (.cells #[.int .i64 0, .int .i64 0, .int .i64 0, .int .i64 0, .int .i64 0, .int .i64 0, .int .i64 0, .int .i64 0, .int .i64 0, .bool false, .int .i64 0, .int .i64 0, .string ⟨#[]⟩, .int .i64 0, .int .i64 0, .int .i64 0, .int .i64 0, .int .i64 0, .int .u32 0, .int .i64 0, .int .i64 0, .slice none 0 0, .slice none 0 0, .slice none 0 0] 40)
  go_wp2_with (refine wpList_put_at rfl 40 (.tmp 9) (.tmp 26) rfl w1.heap.size 0 [.int .i64 (valM oM).h.kind, .int .i64 (valM oM).h.frm, .int .i64 (valM oM).h.to, .int .i64 (valM oM).h.ballot, .int .i64 (valM oM).h.slot, .int .i64 (valM oM).h.blob, .int .i64 (valM oM).h.index, .int .i64 (valM oM).h.epoch, .int .i64 (valM oM).h.id, .bool (valM oM).h.ok, .int .i64 (valM oM).h.cmd.id, .int .i64 (valM oM).h.cmd.kind, .string (valM oM).h.cmd.key, .int .i64 (valM oM).h.cmd.blob, .int .i64 (valM oM).h.cmd.other, .int .i64 (valM oM).h.cmd.index, .int .i64 (valM oM).h.cmd.node, .int .i64 (valM oM).h.cmd.size, .int .u32 (valM oM).h.cmd.sum, .int .i64 (valM oM).h.cmd.k, .int .i64 (valM oM).h.cmd.m, .slice aP (valM oM).cn.length ae, .slice aV (valM oM).vs.length av, .slice aX (valM oM).bs.length af] rfl rfl 40 _ #[.int .i64 (valM oM).h.kind, .int .i64 (valM oM).h.frm, .int .i64 (valM oM).h.to, .int .i64 (valM oM).h.ballot, .int .i64 (valM oM).h.slot, .int .i64 (valM oM).h.blob, .int .i64 (valM oM).h.index, .int .i64 (valM oM).h.epoch, .int .i64 (valM oM).h.id, .bool (valM oM).h.ok, .int .i64 (valM oM).h.cmd.id, .int .i64 (valM oM).h.cmd.kind, .string (valM oM).h.cmd.key, .int .i64 (valM oM).h.cmd.blob, .int .i64 (valM oM).h.cmd.other, .int .i64 (valM oM).h.cmd.index, .int .i64 (valM oM).h.cmd.node, .int .i64 (valM oM).h.cmd.size, .int .u32 (valM oM).h.cmd.sum, .int .i64 (valM oM).h.cmd.k, .int .i64 (valM oM).h.cmd.m, .slice aP (valM oM).cn.length ae, .slice aV (valM oM).vs.length av, .slice aX (valM oM).bs.length af] hgz1 (by kernel_rfl) (by show (24 : Nat) ≤ 24; decide) (msg_one (valM oM).h aP aV aX (valM oM).cn.length ae (valM oM).vs.length av (valM oM).bs.length af) rfl ?_; intro w2 hgr2 hg2)
  have hb2 : Below w1.heap.size w1 w2 := hbz1.trans ⟨hgr2.os, hgr2.tape, hgr2.output, hgr2.size, fun k hk => hgr2.block k (by have := hbz1.size; omega) (by intro he; injection he with he; omega)⟩
  have hz2 : w1.heap.size < w2.heap.size := by have := hgr2.size; simp at this; omega
  have hb12 : Below v2.heap.size v2 w2 := hb1.trans (hb2.mono hz1)
  have HM2 := Lib.hid (hm1.map (fun T sz v n xs h => own_below h hb2))
  have HG2 := Lib.hid hg2
  have HB3 := Lib.hid (HB2.out.below hb12)
  have HX3 := Lib.hid (And.intro (HX2.out.1.below hb12) (HX2.out.2.below hb12))
  have hBe3 := hBe2.trans (hb12.mono hBe2.size)
  clear hgz1 hbz1 hgr2 hg2 hb2 hm1 hb1 hb12 HB2 HX2 hBe2 HC3
  refine (HC4.out _ HB3.out).mono ?_
  rintro e1 w5 ⟨bP, be, bV, bv', bX, bf, rfl, hb5, hm5⟩
  have hz5 := hb5.size
  have hgz5 : (w5.alloc (.cells #[.int .i64 0, .int .i64 0, .int .i64 0, .int .i64 0, .int .i64 0, .int .i64 0, .int .i64 0, .int .i64 0, .int .i64 0, .bool false, .int .i64 0, .int .i64 0, .string ⟨#[]⟩, .int .i64 0, .int .i64 0, .int .i64 0, .int .i64 0, .int .i64 0, .int .u32 0, .int .i64 0, .int .i64 0, .slice none 0 0, .slice none 0 0, .slice none 0 0] 40)).heap[w5.heap.size]? = some (.cells #[.int .i64 0, .int .i64 0, .int .i64 0, .int .i64 0, .int .i64 0, .int .i64 0, .int .i64 0, .int .i64 0, .int .i64 0, .bool false, .int .i64 0, .int .i64 0, .string ⟨#[]⟩, .int .i64 0, .int .i64 0, .int .i64 0, .int .i64 0, .int .i64 0, .int .u32 0, .int .i64 0, .int .i64 0, .slice none 0 0, .slice none 0 0, .slice none 0 0] 40 (0, 0)) := heap_alloc_new w5 _
  have hbz5 := below1' w5 (.cells #[.int .i64 0, .int .i64 0, .int .i64 0, .int .i64 0, .int .i64 0, .int .i64 0, .int .i64 0, .int .i64 0, .int .i64 0, .bool false, .int .i64 0, .int .i64 0, .string ⟨#[]⟩, .int .i64 0, .int .i64 0, .int .i64 0, .int .i64 0, .int .i64 0, .int .u32 0, .int .i64 0, .int .i64 0, .slice none 0 0, .slice none 0 0, .slice none 0 0] 40)
  go_wp2_with (refine wpList_put_at rfl 40 (.tmp 11) (.tmp 31) rfl w5.heap.size 0 [.int .i64 (valM oM).h.kind, .int .i64 (valM oM).h.frm, .int .i64 (valM oM).h.to, .int .i64 (valM oM).h.ballot, .int .i64 (valM oM).h.slot, .int .i64 (valM oM).h.blob, .int .i64 (valM oM).h.index, .int .i64 (valM oM).h.epoch, .int .i64 (valM oM).h.id, .bool (valM oM).h.ok, .int .i64 (valM oM).h.cmd.id, .int .i64 (valM oM).h.cmd.kind, .string (valM oM).h.cmd.key, .int .i64 (valM oM).h.cmd.blob, .int .i64 (valM oM).h.cmd.other, .int .i64 (valM oM).h.cmd.index, .int .i64 (valM oM).h.cmd.node, .int .i64 (valM oM).h.cmd.size, .int .u32 (valM oM).h.cmd.sum, .int .i64 (valM oM).h.cmd.k, .int .i64 (valM oM).h.cmd.m, .slice bP (valM oM).cn.length be, .slice bV (valM oM).vs.length bv', .slice bX (valM oM).bs.length bf] rfl rfl 40 _ #[.int .i64 (valM oM).h.kind, .int .i64 (valM oM).h.frm, .int .i64 (valM oM).h.to, .int .i64 (valM oM).h.ballot, .int .i64 (valM oM).h.slot, .int .i64 (valM oM).h.blob, .int .i64 (valM oM).h.index, .int .i64 (valM oM).h.epoch, .int .i64 (valM oM).h.id, .bool (valM oM).h.ok, .int .i64 (valM oM).h.cmd.id, .int .i64 (valM oM).h.cmd.kind, .string (valM oM).h.cmd.key, .int .i64 (valM oM).h.cmd.blob, .int .i64 (valM oM).h.cmd.other, .int .i64 (valM oM).h.cmd.index, .int .i64 (valM oM).h.cmd.node, .int .i64 (valM oM).h.cmd.size, .int .u32 (valM oM).h.cmd.sum, .int .i64 (valM oM).h.cmd.k, .int .i64 (valM oM).h.cmd.m, .slice bP (valM oM).cn.length be, .slice bV (valM oM).vs.length bv', .slice bX (valM oM).bs.length bf] hgz5 (by kernel_rfl) (by show (24 : Nat) ≤ 24; decide) (msg_one (valM oM).h bP bV bX (valM oM).cn.length be (valM oM).vs.length bv' (valM oM).bs.length bf) rfl ?_; intro w6 hgr6 hg6)
  have hb6 : Below w5.heap.size w5 w6 := hbz5.trans ⟨hgr6.os, hgr6.tape, hgr6.output, hgr6.size, fun k hk => hgr6.block k (by have := hbz5.size; omega) (by intro he; injection he with he; omega)⟩
  have hz6 : w5.heap.size < w6.heap.size := by have := hgr6.size; simp at this; omega
  have hb56 : Below w2.heap.size w2 w6 := hb5.trans (hb6.mono hz5)
  have HM6 := Lib.hid (And.intro (HM2.out.map (fun T sz v n xs h => own_below h hb56)) (hm5.map (fun T sz v n xs h => own_below h hb6)))
  have hata : At w6 (some ⟨w1.heap.size, 0, none⟩) [.int .i64 (valM oM).h.kind, .int .i64 (valM oM).h.frm, .int .i64 (valM oM).h.to, .int .i64 (valM oM).h.ballot, .int .i64 (valM oM).h.slot, .int .i64 (valM oM).h.blob, .int .i64 (valM oM).h.index, .int .i64 (valM oM).h.epoch, .int .i64 (valM oM).h.id, .bool (valM oM).h.ok, .int .i64 (valM oM).h.cmd.id, .int .i64 (valM oM).h.cmd.kind, .string (valM oM).h.cmd.key, .int .i64 (valM oM).h.cmd.blob, .int .i64 (valM oM).h.cmd.other, .int .i64 (valM oM).h.cmd.index, .int .i64 (valM oM).h.cmd.node, .int .i64 (valM oM).h.cmd.size, .int .u32 (valM oM).h.cmd.sum, .int .i64 (valM oM).h.cmd.k, .int .i64 (valM oM).h.cmd.m, .slice aP (valM oM).cn.length ae, .slice aV (valM oM).vs.length av, .slice aX (valM oM).bs.length af] := at_cells ((hb56.block w1.heap.size (by omega)).trans HG2.out)
  have hatb : At w6 (some ⟨w5.heap.size, 0, none⟩) [.int .i64 (valM oM).h.kind, .int .i64 (valM oM).h.frm, .int .i64 (valM oM).h.to, .int .i64 (valM oM).h.ballot, .int .i64 (valM oM).h.slot, .int .i64 (valM oM).h.blob, .int .i64 (valM oM).h.index, .int .i64 (valM oM).h.epoch, .int .i64 (valM oM).h.id, .bool (valM oM).h.ok, .int .i64 (valM oM).h.cmd.id, .int .i64 (valM oM).h.cmd.kind, .string (valM oM).h.cmd.key, .int .i64 (valM oM).h.cmd.blob, .int .i64 (valM oM).h.cmd.other, .int .i64 (valM oM).h.cmd.index, .int .i64 (valM oM).h.cmd.node, .int .i64 (valM oM).h.cmd.size, .int .u32 (valM oM).h.cmd.sum, .int .i64 (valM oM).h.cmd.k, .int .i64 (valM oM).h.cmd.m, .slice bP (valM oM).cn.length be, .slice bV (valM oM).vs.length bv', .slice bX (valM oM).bs.length bf] := at_cells hg6
  have HX6 := Lib.hid (And.intro (HX3.out.1.below hb56) (HX3.out.2.below hb56))
  have hBe6 := hBe3.trans (hb56.mono hBe3.size)
  clear hgz5 hbz5 hgr6 hg6 hb6 hb5 hb56 HM2 HG2 HB3 HX3 hBe3 HC4 hm5
  refine (equal_calls HX6.out.1 HX6.out.2 rfl rfl).mono ?_
  rintro e1 w7 ⟨he, rfl⟩
  replace he : e1 = .returned (.bool true) := he.trans (by simp)
  subst he
  clear HX6
  have HS := Lib.hid (smsg_calls (e := av) (e' := bv') HM6.out.1.at HM6.out.2.at)
  go_wp2_with (first
    | (refine load_atG (by rfl) 40 (.tmp 9) rfl rfl hata Try.underlying40 rfl (by kernel_rfl) ?_)
    | (refine load_atG (by rfl) 40 (.tmp 11) rfl rfl hatb Try.underlying40 rfl (by kernel_rfl) ?_))
  refine HS.out.mono ?_
  rintro e1 w8 ⟨rfl, hb8⟩
  have hBe8 := hBe6.trans (hb8.mono hBe6.size)
  clear hb8 HS HM6 hata hatb hBe6
  go_wp2_with fail
  refine (frameWraps_calls (l := []) (At.nil _ _) rfl (fun _ => rfl) (by decide)).mono ?_
  rintro e1 w9 ⟨rfl, hb9⟩
  go_wp2_with fail
  go_ret
  exact ⟨ret_bool rfl, hBe8.trans (hb9.mono hBe8.size)⟩
end Go.Proofs.Ytfcacplecapgfaa
