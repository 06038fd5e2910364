/- Contract of the law FrameOnce itself. -/
import Derived.Test.YtfcacplecapgfaaG15
import Derived.Test.YtfcacplecapgfaaG12
namespace Go.Proofs.Ytfcacplecapgfaa
open Go.RowKit
set_option linter.unusedVariables false
set_option linter.unusedSimpArgs false

set_option maxHeartbeats 16000000 in
set_option maxRecDepth 100000 in
theorem frameOnce_calls {w : World} {B : Option Addr} {d : Nat} {l : List B8} (hB : SlB w B d l) (hmax : l.length ≤ 140737488351232) :
    Calls Try.prog 4 #[.slice B l.length d] w (RetV w (.bool true)) := by
  have C1 : ∀ w : World, SlB w B d l → Calls Try.prog 14 #[.slice B l.length d] w (RetM w (oneM l)) := fun w h => readMsg_calls h
  have C2 : ∀ w : World, SlB w B d l → Calls Try.prog 9 #[.slice B l.length d] w (RetC w (oneC l)) := fun w h => readCmd_calls h
  have C3 : ∀ w : World, SlB w B d l → Calls Try.prog 15 #[.slice B l.length d] w (RetM w (oneM l)) := fun w h => rreadMsg_calls h
  have C4 : ∀ w : World, SlB w B d l → Calls Try.prog 10 #[.slice B l.length d] w (RetC w (oneC l)) := fun w h => rreadCmd_calls h
  have HMS : Hid (∀ m, oneM l = some m → l = msgB m ∧ mayM m = true) := fun m h => oneM_some h
  have HCS : Hid (∀ c ns, oneC l = some (c, ns) → l = cmdB c ns ∧ mayC c ns = true ∧ SumOk c) := fun c ns h => oneC_some h
  generalize oneM l = oM at *
  generalize oneC l = oC at *
  have HC1 := Lib.hid C1
  have HC2 := Lib.hid C2
  have HC3 := Lib.hid C3
  have HC4 := Lib.hid C4
  have HB := Lib.hid hB
  clear C1 C2 C3 C4 hB
  go_enter Try.func4, Try.ntmps4
  go_wp2_with fail
  refine (HC1.out _ HB.out).mono ?_
  rintro e1 w1 ⟨aP, ae, aV, av, aX, af, rfl, hb1, hm1⟩
  have HB1 := Lib.hid (HB.out.below hb1)
  have hz1 := hb1.size
  have hgz1 : (w1.alloc (.cells #[.int .i64 0, .int .i64 0, .int .i64 0, .int .i64 0, .int .i64 0, .int .i64 0, .int .i64 0, .int .i64 0, .int .i64 0, .bool false, .int .i64 0, .int .i64 0, .string ⟨#[]⟩, .int .i64 0, .int .i64 0, .int .i64 0, .int .i64 0, .int .i64 0, .int .u32 0, .int .i64 0, .int .i64 0, .slice none 0 0, .slice none 0 0, .slice none 0 0] 40)).heap[w1.heap.size]? = some (.cells #[.int .i64 0, .int .i64 0, .int .i64 0, .int .i64 0, .int .i64 0, .int .i64 0, .int .i64 0, .int .i64 0, .int .i64 0, .bool false, .int .i64 0, .int .i64 0, .string ⟨#[]⟩, .int .i64 0, .int .i64 0, .int .i64 0, .int .i64 0, .int .i64 0, .int .u32 0, .int .i64 0, .int .i64 0, .slice none 0 0, .slice none 0 0, .slice none 0 0] 40 (0, 0)) := heap_alloc_new w1 _
  have hbz1 := below1' w1 (.cells #[.int .i64 0, .int .i64 0, .int .i64 0, .int .i64 0, .int .i64 0, .int .i64 0, .int .i64 0, .int .i64 0, .int .i64 0, .bool false, .int .i64 0, .int .i64 0, .string ⟨#[]⟩, .int .i64 0, .int .i64 0, .int .i64 0, .int .i64 0, .int .i64 0, .int .u32 0, .int .i64 0, .int .i64 0, .slice none 0 0, .slice none 0 0, .slice none 0 0] 40)
  go_wp2_with (refine wpList_put_at rfl 40 (.tmp 3) (.tmp 18) rfl w1.heap.size 0 [.int .i64 (valM oM).h.kind, .int .i64 (valM oM).h.frm, .int .i64 (valM oM).h.to, .int .i64 (valM oM).h.ballot, .int .i64 (valM oM).h.slot, .int .i64 (valM oM).h.blob, .int .i64 (valM oM).h.index, .int .i64 (valM oM).h.epoch, .int .i64 (valM oM).h.id, .bool (valM oM).h.ok, .int .i64 (valM oM).h.cmd.id, .int .i64 (valM oM).h.cmd.kind, .string (valM oM).h.cmd.key, .int .i64 (valM oM).h.cmd.blob, .int .i64 (valM oM).h.cmd.other, .int .i64 (valM oM).h.cmd.index, .int .i64 (valM oM).h.cmd.node, .int .i64 (valM oM).h.cmd.size, .int .u32 (valM oM).h.cmd.sum, .int .i64 (valM oM).h.cmd.k, .int .i64 (valM oM).h.cmd.m, .slice aP (valM oM).cn.length ae, .slice aV (valM oM).vs.length av, .slice aX (valM oM).bs.length af] rfl rfl 40 _ #[.int .i64 (valM oM).h.kind, .int .i64 (valM oM).h.frm, .int .i64 (valM oM).h.to, .int .i64 (valM oM).h.ballot, .int .i64 (valM oM).h.slot, .int .i64 (valM oM).h.blob, .int .i64 (valM oM).h.index, .int .i64 (valM oM).h.epoch, .int .i64 (valM oM).h.id, .bool (valM oM).h.ok, .int .i64 (valM oM).h.cmd.id, .int .i64 (valM oM).h.cmd.kind, .string (valM oM).h.cmd.key, .int .i64 (valM oM).h.cmd.blob, .int .i64 (valM oM).h.cmd.other, .int .i64 (valM oM).h.cmd.index, .int .i64 (valM oM).h.cmd.node, .int .i64 (valM oM).h.cmd.size, .int .u32 (valM oM).h.cmd.sum, .int .i64 (valM oM).h.cmd.k, .int .i64 (valM oM).h.cmd.m, .slice aP (valM oM).cn.length ae, .slice aV (valM oM).vs.length av, .slice aX (valM oM).bs.length af] hgz1 (by kernel_rfl) (by show (24 : Nat) ≤ 24; decide) (msg_one (valM oM).h aP aV aX (valM oM).cn.length ae (valM oM).vs.length av (valM oM).bs.length af) rfl ?_; intro w2 hgr2 hg2)
  have hb2 : Below w1.heap.size w1 w2 := hbz1.trans ⟨hgr2.os, hgr2.tape, hgr2.output, hgr2.size, fun k hk => hgr2.block k (by have := hbz1.size; omega) (by intro he; injection he with he; omega)⟩
  have hz2 : w1.heap.size < w2.heap.size := by have := hgr2.size; simp at this; omega
  obtain ⟨k1, hk1⟩ : ∃ k1, k1 = errM oM := ⟨_, rfl⟩
  obtain ⟨k2, hk2⟩ : ∃ k2, k2 = errC oC := ⟨_, rfl⟩
  have HK1 := Lib.hid hk1
  have HK2 := Lib.hid hk2
  have hgz1 : (w1.alloc (.cells #[.int .i64 0, .int .i64 0, .int .i64 0, .int .i64 0, .int .i64 0, .int .i64 0, .int .i64 0, .int .i64 0, .int .i64 0, .bool false, .int .i64 0, .int .i64 0, .string ⟨#[]⟩, .int .i64 0, .int .i64 0, .int .i64 0, .int .i64 0, .int .i64 0, .int .u32 0, .int .i64 0, .int .i64 0, .slice none 0 0, .slice none 0 0, .slice none 0 0] 40)).heap[w1.heap.size]? = some (.cells #[.int .i64 0, .int .i64 0, .int .i64 0, .int .i64 0, .int .i64 0, .int .i64 0, .int .i64 0, .int .i64 0, .int .i64 0, .bool false, .int .i64 0, .int .i64 0, .string ⟨#[]⟩, .int .i64 0, .int .i64 0, .int .i64 0, .int .i64 0, .int .i64 0, .int .u32 0, .int .i64 0, .int .i64 0, .slice none 0 0, .slice none 0 0, .slice none 0 0] 40 (0, 0)) := heap_alloc_new w1 _
  have hbz1 := below1' w1 (.cells #[.int .i64 0, .int .i64 0, .int .i64 0, .int .i64 0, .int .i64 0, .int .i64 0, .int .i64 0, .int .i64 0, .int .i64 0, .bool false, .int .i64 0, .int .i64 0, .string ⟨#[]⟩, .int .i64 0, .int .i64 0, .int .i64 0, .int .i64 0, .int .i64 0, .int .u32 0, .int .i64 0, .int .i64 0, .slice none 0 0, .slice none 0 0, .slice none 0 0] 40)
  go_wp2_with (refine wpList_put_at rfl 40 (.tmp 3) (.tmp 18) rfl w1.heap.size 0 [.int .i64 (valM oM).h.kind, .int .i64 (valM oM).h.frm, .int .i64 (valM oM).h.to, .int .i64 (valM oM).h.ballot, .int .i64 (valM oM).h.slot, .int .i64 (valM oM).h.blob, .int .i64 (valM oM).h.index, .int .i64 (valM oM).h.epoch, .int .i64 (valM oM).h.id, .bool (valM oM).h.ok, .int .i64 (valM oM).h.cmd.id, .int .i64 (valM oM).h.cmd.kind, .string (valM oM).h.cmd.key, .int .i64 (valM oM).h.cmd.blob, .int .i64 (valM oM).h.cmd.other, .int .i64 (valM oM).h.cmd.index, .int .i64 (valM oM).h.cmd.node, .int .i64 (valM oM).h.cmd.size, .int .u32 (valM oM).h.cmd.sum, .int .i64 (valM oM).h.cmd.k, .int .i64 (valM oM).h.cmd.m, .slice aP (valM oM).cn.length ae, .slice aV (valM oM).vs.length av, .slice aX (valM oM).bs.length af] rfl rfl 40 _ #[.int .i64 (valM oM).h.kind, .int .i64 (valM oM).h.frm, .int .i64 (valM oM).h.to, .int .i64 (valM oM).h.ballot, .int .i64 (valM oM).h.slot, .int .i64 (valM oM).h.blob, .int .i64 (valM oM).h.index, .int .i64 (valM oM).h.epoch, .int .i64 (valM oM).h.id, .bool (valM oM).h.ok, .int .i64 (valM oM).h.cmd.id, .int .i64 (valM oM).h.cmd.kind, .string (valM oM).h.cmd.key, .int .i64 (valM oM).h.cmd.blob, .int .i64 (valM oM).h.cmd.other, .int .i64 (valM oM).h.cmd.index, .int .i64 (valM oM).h.cmd.node, .int .i64 (valM oM).h.cmd.size, .int .u32 (valM oM).h.cmd.sum, .int .i64 (valM oM).h.cmd.k, .int .i64 (valM oM).h.cmd.m, .slice aP (valM oM).cn.length ae, .slice aV (valM oM).vs.length av, .slice aX (valM oM).bs.length af] hgz1 (by kernel_rfl) (by show (24 : Nat) ≤ 24; decide) (msg_one (valM oM).h aP aV aX (valM oM).cn.length ae (valM oM).vs.length av (valM oM).bs.length af) rfl ?_; intro w2 hgr2 hg2)
  have hb2 : Below w1.heap.size w1 w2 := hbz1.trans ⟨hgr2.os, hgr2.tape, hgr2.output, hgr2.size, fun k hk => hgr2.block k (by have := hbz1.size; omega) (by intro he; injection he with he; omega)⟩
  have hz2 : w1.heap.size < w2.heap.size := by have := hgr2.size; simp at this; omega
  have HM2 := Lib.hid (hm1.map (fun T sz v n xs h => own_below h hb2))
  have HG2 := Lib.hid hg2
  have HB2 := Lib.hid (HB1.out.below hb2)
  have hBe2 := hb1.trans (hb2.mono hz1)
  clear hgz1 hbz1 hgr2 hg2 hb2 hm1 hb1 HB1 HB HC1
  refine (HC2.out _ HB2.out).mono ?_
  rintro e1 w3 ⟨cP, ce, rfl, hb3, hc3, hcl3⟩
  have hz3 := hb3.size
  have HM3 := Lib.hid (HM2.out.map (fun T sz v n xs h => own_below h hb3))
  have HG3 := Lib.hid ((hb3.block w1.heap.size (by omega)).trans HG2.out)
  have HB3 := Lib.hid (HB2.out.below hb3)
  have hBe3 := hBe2.trans (hb3.mono hBe2.size)
  have HCL := Lib.hid hcl3
  unfold cmv
  have hb4 := below1' w3 (.cells #[.int .i64 (valC oC).1.id, .int .i64 (valC oC).1.kind, .string (valC oC).1.key, .int .i64 (valC oC).1.blob, .int .i64 (valC oC).1.other, .int .i64 (valC oC).1.index, .int .i64 (valC oC).1.node, .int .i64 (valC oC).1.size, .int .u32 (valC oC).1.sum, .int .i64 (valC oC).1.k, .int .i64 (valC oC).1.m, .slice cP (valC oC).2.length ce] 27)
  have hg4 : (w3.alloc (.cells #[.int .i64 (valC oC).1.id, .int .i64 (valC oC).1.kind, .string (valC oC).1.key, .int .i64 (valC oC).1.blob, .int .i64 (valC oC).1.other, .int .i64 (valC oC).1.index, .int .i64 (valC oC).1.node, .int .i64 (valC oC).1.size, .int .u32 (valC oC).1.sum, .int .i64 (valC oC).1.k, .int .i64 (valC oC).1.m, .slice cP (valC oC).2.length ce] 27)).heap[w3.heap.size]? = some (.cells #[.int .i64 (valC oC).1.id, .int .i64 (valC oC).1.kind, .string (valC oC).1.key, .int .i64 (valC oC).1.blob, .int .i64 (valC oC).1.other, .int .i64 (valC oC).1.index, .int .i64 (valC oC).1.node, .int .i64 (valC oC).1.size, .int .u32 (valC oC).1.sum, .int .i64 (valC oC).1.k, .int .i64 (valC oC).1.m, .slice cP (valC oC).2.length ce] 27 (0, 0)) := heap_alloc_new w3 _
  have hz4 : (w3.alloc (.cells #[.int .i64 (valC oC).1.id, .int .i64 (valC oC).1.kind, .string (valC oC).1.key, .int .i64 (valC oC).1.blob, .int .i64 (valC oC).1.other, .int .i64 (valC oC).1.index, .int .i64 (valC oC).1.node, .int .i64 (valC oC).1.size, .int .u32 (valC oC).1.sum, .int .i64 (valC oC).1.k, .int .i64 (valC oC).1.m, .slice cP (valC oC).2.length ce] 27)).heap.size = w3.heap.size + 1 := by simp
  have HM4 := Lib.hid (HM3.out.map (fun T sz v n xs h => own_below h hb4))
  have HG4 := Lib.hid ((hb4.block w1.heap.size (by omega)).trans HG3.out)
  have HB4 := Lib.hid (HB3.out.below hb4)
  have hBe4 := hBe3.trans (hb4.mono hBe3.size)
  have HC4x := Lib.hid (own_below hc3 hb4)
  have HGC4 := Lib.hid hg4
  clear hb3 hc3 hb4 hg4 HM2 HG2 HB2 HM3 HG3 HB3 HC2 hcl3 hBe2 hBe3
  go_wp2_with fail
  generalize w3.alloc (.cells #[.int .i64 (valC oC).1.id, .int .i64 (valC oC).1.kind, .string (valC oC).1.key, .int .i64 (valC oC).1.blob, .int .i64 (valC oC).1.other, .int .i64 (valC oC).1.index, .int .i64 (valC oC).1.node, .int .i64 (valC oC).1.size, .int .u32 (valC oC).1.sum, .int .i64 (valC oC).1.k, .int .i64 (valC oC).1.m, .slice cP (valC oC).2.length ce] 27) = w4 at *
  refine (HC3.out _ HB4.out).mono ?_
  rintro e1 w5 ⟨bP, be, bV, bv', bX, bf, rfl, hb5, _⟩
  have hz5 := hb5.size
  have hgz5 : (w5.alloc (.cells #[.int .i64 0, .int .i64 0, .int .i64 0, .int .i64 0, .int .i64 0, .int .i64 0, .int .i64 0, .int .i64 0, .int .i64 0, .bool false, .int .i64 0, .int .i64 0, .string ⟨#[]⟩, .int .i64 0, .int .i64 0, .int .i64 0, .int .i64 0, .int .i64 0, .int .u32 0, .int .i64 0, .int .i64 0, .slice none 0 0, .slice none 0 0, .slice none 0 0] 40)).heap[w5.heap.size]? = some (.cells #[.int .i64 0, .int .i64 0, .int .i64 0, .int .i64 0, .int .i64 0, .int .i64 0, .int .i64 0, .int .i64 0, .int .i64 0, .bool false, .int .i64 0, .int .i64 0, .string ⟨#[]⟩, .int .i64 0, .int .i64 0, .int .i64 0, .int .i64 0, .int .i64 0, .int .u32 0, .int .i64 0, .int .i64 0, .slice none 0 0, .slice none 0 0, .slice none 0 0] 40 (0, 0)) := heap_alloc_new w5 _
  have hbz5 := below1' w5 (.cells #[.int .i64 0, .int .i64 0, .int .i64 0, .int .i64 0, .int .i64 0, .int .i64 0, .int .i64 0, .int .i64 0, .int .i64 0, .bool false, .int .i64 0, .int .i64 0, .string ⟨#[]⟩, .int .i64 0, .int .i64 0, .int .i64 0, .int .i64 0, .int .i64 0, .int .u32 0, .int .i64 0, .int .i64 0, .slice none 0 0, .slice none 0 0, .slice none 0 0] 40)
  go_wp2_with (refine wpList_put_at rfl 40 (.tmp 7) (.tmp 28) rfl w5.heap.size 0 [.int .i64 (valM oM).h.kind, .int .i64 (valM oM).h.frm, .int .i64 (valM oM).h.to, .int .i64 (valM oM).h.ballot, .int .i64 (valM oM).h.slot, .int .i64 (valM oM).h.blob, .int .i64 (valM oM).h.index, .int .i64 (valM oM).h.epoch, .int .i64 (valM oM).h.id, .bool (valM oM).h.ok, .int .i64 (valM oM).h.cmd.id, .int .i64 (valM oM).h.cmd.kind, .string (valM oM).h.cmd.key, .int .i64 (valM oM).h.cmd.blob, .int .i64 (valM oM).h.cmd.other, .int .i64 (valM oM).h.cmd.index, .int .i64 (valM oM).h.cmd.node, .int .i64 (valM oM).h.cmd.size, .int .u32 (valM oM).h.cmd.sum, .int .i64 (valM oM).h.cmd.k, .int .i64 (valM oM).h.cmd.m, .slice bP (valM oM).cn.length be, .slice bV (valM oM).vs.length bv', .slice bX (valM oM).bs.length bf] rfl rfl 40 _ #[.int .i64 (valM oM).h.kind, .int .i64 (valM oM).h.frm, .int .i64 (valM oM).h.to, .int .i64 (valM oM).h.ballot, .int .i64 (valM oM).h.slot, .int .i64 (valM oM).h.blob, .int .i64 (valM oM).h.index, .int .i64 (valM oM).h.epoch, .int .i64 (valM oM).h.id, .bool (valM oM).h.ok, .int .i64 (valM oM).h.cmd.id, .int .i64 (valM oM).h.cmd.kind, .string (valM oM).h.cmd.key, .int .i64 (valM oM).h.cmd.blob, .int .i64 (valM oM).h.cmd.other, .int .i64 (valM oM).h.cmd.index, .int .i64 (valM oM).h.cmd.node, .int .i64 (valM oM).h.cmd.size, .int .u32 (valM oM).h.cmd.sum, .int .i64 (valM oM).h.cmd.k, .int .i64 (valM oM).h.cmd.m, .slice bP (valM oM).cn.length be, .slice bV (valM oM).vs.length bv', .slice bX (valM oM).bs.length bf] hgz5 (by kernel_rfl) (by show (24 : Nat) ≤ 24; decide) (msg_one (valM oM).h bP bV bX (valM oM).cn.length be (valM oM).vs.length bv' (valM oM).bs.length bf) rfl ?_; intro w6 hgr6 hg6)
  have hb6 : Below w5.heap.size w5 w6 := hbz5.trans ⟨hgr6.os, hgr6.tape, hgr6.output, hgr6.size, fun k hk => hgr6.block k (by have := hbz5.size; omega) (by intro he; injection he with he; omega)⟩
  have hz6 : w5.heap.size < w6.heap.size := by have := hgr6.size; simp at this; omega
  have hb56 : Below w4.heap.size w4 w6 := hb5.trans (hb6.mono hz5)
  have HM6 := Lib.hid (HM4.out.map (fun T sz v n xs h => own_below h hb56))
  have HG6 := Lib.hid ((hb56.block w1.heap.size (by omega)).trans HG4.out)
  have HGC6 := Lib.hid ((hb56.block w3.heap.size (by omega)).trans HGC4.out)
  have HCO6 := Lib.hid (own_below HC4x.out hb56)
  have HB6 := Lib.hid (HB4.out.below hb56)
  have hBe6 := hBe4.trans (hb56.mono hBe4.size)
  have hz56 := hb56.size
  clear hgz5 hbz5 hgr6 hg6 hb6 hb5 hb56 HM4 HG4 HGC4 HC4x HB4 HC3 hBe4
  refine (HC4.out _ HB6.out).mono ?_
  rintro e1 w7 ⟨dP, de, rfl, hb7, _, _⟩
  have hz7 := hb7.size
  unfold cmv
  have hb8 := below1' w7 (.cells #[.int .i64 (valC oC).1.id, .int .i64 (valC oC).1.kind, .string (valC oC).1.key, .int .i64 (valC oC).1.blob, .int .i64 (valC oC).1.other, .int .i64 (valC oC).1.index, .int .i64 (valC oC).1.node, .int .i64 (valC oC).1.size, .int .u32 (valC oC).1.sum, .int .i64 (valC oC).1.k, .int .i64 (valC oC).1.m, .slice dP (valC oC).2.length de] 27)
  have hb78 : Below w6.heap.size w6 (w7.alloc (.cells #[.int .i64 (valC oC).1.id, .int .i64 (valC oC).1.kind, .string (valC oC).1.key, .int .i64 (valC oC).1.blob, .int .i64 (valC oC).1.other, .int .i64 (valC oC).1.index, .int .i64 (valC oC).1.node, .int .i64 (valC oC).1.size, .int .u32 (valC oC).1.sum, .int .i64 (valC oC).1.k, .int .i64 (valC oC).1.m, .slice dP (valC oC).2.length de] 27)) := hb7.trans (hb8.mono hz7)
  have HM8 := Lib.hid (HM6.out.map (fun T sz v n xs h => own_below h hb78))
  have HG8 := Lib.hid ((hb78.block w1.heap.size (by omega)).trans HG6.out)
  have HGC8 := Lib.hid ((hb78.block w3.heap.size (by omega)).trans HGC6.out)
  have HCO8 := Lib.hid (own_below HCO6.out hb78)
  have HB8 := Lib.hid (HB6.out.below hb78)
  have hBe8 := hBe6.trans (hb78.mono hBe6.size)
  have hz78 := hb78.size
  clear hb7 hb8 hb78 HM6 HG6 HGC6 HCO6 HB6 HC4 hBe6
  have hka : (k1 != k1) = false := by simp
  have hkb : (k2 != k2) = false := by simp
  rw [← hk2]
  clear hk1 hk2
  have HBEL := Lib.hid hBe8
  have HBW := HB8
  have HGC := HGC8
  have HCO := HCO8
  clear hBe8 HB8 HGC8 HCO8
  cases oM with
  | none =>
    have hk1' : k1 = 51 := HK1.out
    subst hk1'
    cases oC with
    | none =>
      have hk2' : k2 = 51 := HK2.out
      subst hk2'
      go_wp2_with fail
      refine (frameWraps_calls (l := []) (At.nil _ _) rfl (fun _ => rfl) (by decide)).mono ?_
      rintro e1 w30 ⟨rfl, hb30⟩
      go_wp2_with fail
      go_ret
      exact ⟨ret_bool rfl, HBEL.out.trans (hb30.mono HBEL.out.size)⟩
    | some cc =>
      have hk2' : k2 = 0 := HK2.out
      subst hk2'
      obtain ⟨cc, cn⟩ := cc
      obtain ⟨hl2, hm2, hs2⟩ := HCS.out cc cn rfl
      have HL2 := Lib.hid hl2
      have HCW := Lib.hid (fcmd_calls (l := cn) (n := cn.length) cc (d := ce) (own_at HCO.out) rfl (show cn.length ≤ 140737488355328 by have h1 : cn.length ≤ 255 := HCL.out; omega) hs2)
      rw [show encC cc cn = cmdB cc cn by unfold encC; rw [if_pos hm2], show encCE cc cn = 0 by unfold encCE; rw [if_pos hm2]] at HCW
      have e := cells_of (c := cc) (v := .slice cP cn.length ce) (HGC.out)
      obtain ⟨e0, e1, e2, e3, e4, e5, e6, e7, e8, e9, e10, e11⟩ := e
      clear hl2 hm2 hs2
      go_wp2_with fail
      clear e0 e1 e2 e3 e4 e5 e6 e7 e8 e9 e10 e11
      refine HCW.out.mono ?_
      rintro e1 w31 ⟨A31, c31, rfl, hat31, hb31⟩
      have hB31 := HBEL.out.trans (hb31.mono HBEL.out.size)
      have HE := Lib.hid (equal_calls (c := c31) (d := d) hat31 (HBW.out.below hb31).at' rfl rfl)
      rw [decide_eq_true HL2.out.symm] at HE
      clear hat31 HCW hb31
      go_wp2_with fail
      refine HE.out.mono ?_
      rintro e1 w32 ⟨rfl, rfl⟩
      go_wp2_with fail
      refine (frameWraps_calls (l := []) (At.nil _ _) rfl (fun _ => rfl) (by decide)).mono ?_
      rintro e1 w33 ⟨rfl, hb33⟩
      go_wp2_with fail
      go_ret
      exact ⟨ret_bool rfl, hB31.trans (hb33.mono hB31.size)⟩
  | some m =>
    have hk1' : k1 = 0 := HK1.out
    subst hk1'
    obtain ⟨hl1, hm1⟩ := HMS.out m rfl
    have HL1 := Lib.hid hl1
    have hatM : At (w7.alloc (.cells #[.int .i64 (valC oC).1.id, .int .i64 (valC oC).1.kind, .string (valC oC).1.key, .int .i64 (valC oC).1.blob, .int .i64 (valC oC).1.other, .int .i64 (valC oC).1.index, .int .i64 (valC oC).1.node, .int .i64 (valC oC).1.size, .int .u32 (valC oC).1.sum, .int .i64 (valC oC).1.k, .int .i64 (valC oC).1.m, .slice dP (valC oC).2.length de] 27)) (some ⟨w1.heap.size, 0, none⟩) [.int .i64 m.h.kind, .int .i64 m.h.frm, .int .i64 m.h.to, .int .i64 m.h.ballot, .int .i64 m.h.slot, .int .i64 m.h.blob, .int .i64 m.h.index, .int .i64 m.h.epoch, .int .i64 m.h.id, .bool m.h.ok, .int .i64 m.h.cmd.id, .int .i64 m.h.cmd.kind, .string m.h.cmd.key, .int .i64 m.h.cmd.blob, .int .i64 m.h.cmd.other, .int .i64 m.h.cmd.index, .int .i64 m.h.cmd.node, .int .i64 m.h.cmd.size, .int .u32 m.h.cmd.sum, .int .i64 m.h.cmd.k, .int .i64 m.h.cmd.m, .slice aP m.cn.length ae, .slice aV m.vs.length av, .slice aX m.bs.length af] := at_cells HG8.out
    have HMW := Lib.hid (fmsg_good (w := (w7.alloc (.cells #[.int .i64 (valC oC).1.id, .int .i64 (valC oC).1.kind, .string (valC oC).1.key, .int .i64 (valC oC).1.blob, .int .i64 (valC oC).1.other, .int .i64 (valC oC).1.index, .int .i64 (valC oC).1.node, .int .i64 (valC oC).1.size, .int .u32 (valC oC).1.sum, .int .i64 (valC oC).1.k, .int .i64 (valC oC).1.m, .slice dP (valC oC).2.length de] 27))) (m := m) (e := av) (HM8.out.at) hm1)
    clear hl1 hm1
    go_wp2_with (refine wpList_load_at rfl 40 (.tmp 3) rfl rfl hatM Try.underlying40 rfl (by kernel_rfl) ?_)
    refine HMW.out.mono ?_
    rintro e1 w20 ⟨A20, c20, rfl, ho20, hb20⟩
    have hat20 := own_at ho20
    have HBEL2 := Lib.hid (HBEL.out.trans (hb20.mono HBEL.out.size))
    have HBW2 := Lib.hid (HBW.out.below hb20)
    have hz20 := hb20.size
    have HGC2 := Lib.hid ((hb20.block w3.heap.size (by omega)).trans HGC.out)
    have HCO2 := Lib.hid (own_below HCO.out hb20)
    have HE1 := Lib.hid (equal_calls (c := c20) (d := d) hat20 HBW2.out.at' rfl rfl)
    rw [decide_eq_true HL1.out.symm] at HE1
    clear hat20 ho20 hb20 HMW hatM HBEL HBW HGC HCO HM8 HG8
    go_wp2_with fail
    refine HE1.out.mono ?_
    rintro e1 w21 ⟨rfl, rfl⟩
    have HBEL := HBEL2
    have HBW := HBW2
    have HGC := HGC2
    have HCO := HCO2
    clear HBEL2 HBW2 HGC2 HCO2 HE1
    cases oC with
    | none =>
      have hk2' : k2 = 51 := HK2.out
      subst hk2'
      go_wp2_with fail
      refine (frameWraps_calls (l := []) (At.nil _ _) rfl (fun _ => rfl) (by decide)).mono ?_
      rintro e1 w30 ⟨rfl, hb30⟩
      go_wp2_with fail
      go_ret
      exact ⟨ret_bool rfl, HBEL.out.trans (hb30.mono HBEL.out.size)⟩
    | some cc =>
      have hk2' : k2 = 0 := HK2.out
      subst hk2'
      obtain ⟨cc, cn⟩ := cc
      obtain ⟨hl2, hm2, hs2⟩ := HCS.out cc cn rfl
      have HL2 := Lib.hid hl2
      have HCW := Lib.hid (fcmd_calls (l := cn) (n := cn.length) cc (d := ce) (own_at HCO.out) rfl (show cn.length ≤ 140737488355328 by have h1 : cn.length ≤ 255 := HCL.out; omega) hs2)
      rw [show encC cc cn = cmdB cc cn by unfold encC; rw [if_pos hm2], show encCE cc cn = 0 by unfold encCE; rw [if_pos hm2]] at HCW
      have e := cells_of (c := cc) (v := .slice cP cn.length ce) (HGC.out)
      obtain ⟨e0, e1, e2, e3, e4, e5, e6, e7, e8, e9, e10, e11⟩ := e
      clear hl2 hm2 hs2
      go_wp2_with fail
      clear e0 e1 e2 e3 e4 e5 e6 e7 e8 e9 e10 e11
      refine HCW.out.mono ?_
      rintro e1 w31 ⟨A31, c31, rfl, hat31, hb31⟩
      have hB31 := HBEL.out.trans (hb31.mono HBEL.out.size)
      have HE := Lib.hid (equal_calls (c := c31) (d := d) hat31 (HBW.out.below hb31).at' rfl rfl)
      rw [decide_eq_true HL2.out.symm] at HE
      clear hat31 HCW hb31
      go_wp2_with fail
      refine HE.out.mono ?_
      rintro e1 w32 ⟨rfl, rfl⟩
      go_wp2_with fail
      refine (frameWraps_calls (l := []) (At.nil _ _) rfl (fun _ => rfl) (by decide)).mono ?_
      rintro e1 w33 ⟨rfl, hb33⟩
      go_wp2_with fail
      go_ret
      exact ⟨ret_bool rfl, hB31.trans (hb33.mono hB31.size)⟩
end Go.Proofs.Ytfcacplecapgfaa
