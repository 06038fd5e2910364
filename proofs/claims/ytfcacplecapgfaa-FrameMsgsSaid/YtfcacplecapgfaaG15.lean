/- Contract: amphoraref05.ReadMsg. -/
import Derived.Test.YtfcacplecapgfaaG14
namespace Go.Proofs.Ytfcacplecapgfaa
open Go.RowKit
set_option linter.unusedVariables false
set_option linter.unusedSimpArgs false

set_option maxHeartbeats 32000000 in
set_option maxRecDepth 100000 in
theorem rreadMsg_calls {w : World} {A : Option Addr} {d : Nat} {l : List B8} (h : SlB w A d l) :
    Calls Try.prog 15 #[.slice A l.length d] w (RetM w (oneM l)) := by
  obtain ⟨w3, hw3, hB3, hr3, hd3, hg3, hz3⟩ := any3_boxes w (.cells #[.int .i64 0, .int .i64 0, .int .i64 0, .int .i64 0, .int .i64 0, .int .i64 0, .int .i64 0, .int .i64 0, .int .i64 0, .bool false, .int .i64 0, .int .i64 0, .string ⟨#[]⟩, .int .i64 0, .int .i64 0, .int .i64 0, .int .i64 0, .int .i64 0, .int .u32 0, .int .i64 0, .int .i64 0, .slice none 0 0, .slice none 0 0, .slice none 0 0] 40) (.cells #[.slice A l.length d, .bool false] 64) (.cells #[.int .i64 0, .int .i64 0, .int .i64 0, .int .i64 0, .int .i64 0, .int .i64 0, .int .i64 0, .int .i64 0, .int .i64 0, .bool false, .int .i64 0, .int .i64 0, .string ⟨#[]⟩, .int .i64 0, .int .i64 0, .int .i64 0, .int .i64 0, .int .i64 0, .int .u32 0, .int .i64 0, .int .i64 0, .slice none 0 0, .slice none 0 0, .slice none 0 0] 40)
  have hS0 : RdS w3 (w.heap.size + 1) (some l) := ⟨A, d, hd3, h.at'.below hB3, fun b off he => by have := (h.far _ he).2; simp only at this; omega, h.len, h.nil, fun a ha => (h.far a ha).1⟩
  have HW3 := Lib.hid hw3
  have HR3 := Lib.hid hr3
  have HN1 := Lib.hid (rnumS_calls hS0)
  have HB3 := Lib.hid hB3
  have HT3 := Lib.hid (Two.refl w3 (w.heap.size + 1) (w.heap.size + 1 + 1))
  have HG3 := Lib.hid hg3
  have hz3' : w3.heap.size ≤ w3.heap.size := Nat.le_refl _
  clear hw3 h hS0 hr3 hd3 hg3 hB3
  go_enter Try.func15, Try.ntmps15
  go_wp2_with fail
  have hw3 := HW3.out
  rw [← hw3]
  clear hw3 HW3
  refine HN1.out.mono ?_
  rintro e w4 ⟨m1, s1, rfl, hS1, hgr, hstep⟩
  have H1 := Lib.hid (show StepG (numR 1152921504606846976) (some l) m1 s1 from hstep)
  have HG4 := Lib.hid ((hgr.block (w.heap.size + 1 + 1) (by omega) (by intro he; injection he with he; omega)).trans HG3.out)
  have HT4 := Lib.hid (HT3.out.trans (Two.of1 hgr))
  have hz4 : w3.heap.size ≤ w4.heap.size := Nat.le_trans hz3' hgr.size
  clear hstep hgr HG3 HN1
  have HN2 := Lib.hid (rnumS_calls hS1)
  clear hS1
  go_wp2_with fail
  refine HN2.out.mono ?_
  rintro e w5 ⟨m2, s2, rfl, hS2, hgr, hstep⟩
  have H2 := Lib.hid (show StepG (numR 1152921504606846976) s1 m2 s2 from hstep)
  have HG5 := Lib.hid ((hgr.block (w.heap.size + 1 + 1) (by omega) (by intro he; injection he with he; omega)).trans HG4.out)
  have HT5 := Lib.hid (HT4.out.trans (Two.of1 hgr))
  have hz5 : w3.heap.size ≤ w5.heap.size := Nat.le_trans hz4 hgr.size
  clear hstep hgr HG4 HN2
  have HN3 := Lib.hid (rnumS_calls hS2)
  clear hS2
  go_wp2_with fail
  refine HN3.out.mono ?_
  rintro e w6 ⟨m3, s3, rfl, hS3, hgr, hstep⟩
  have H3 := Lib.hid (show StepG (numR 1152921504606846976) s2 m3 s3 from hstep)
  have HG6 := Lib.hid ((hgr.block (w.heap.size + 1 + 1) (by omega) (by intro he; injection he with he; omega)).trans HG5.out)
  have HT6 := Lib.hid (HT5.out.trans (Two.of1 hgr))
  have hz6 : w3.heap.size ≤ w6.heap.size := Nat.le_trans hz5 hgr.size
  clear hstep hgr HG5 HN3
  have HN4 := Lib.hid (rnumS_calls hS3)
  clear hS3
  go_wp2_with fail
  refine HN4.out.mono ?_
  rintro e w7 ⟨m4, s4, rfl, hS4, hgr, hstep⟩
  have H4 := Lib.hid (show StepG (numR 1152921504606846976) s3 m4 s4 from hstep)
  have HG7 := Lib.hid ((hgr.block (w.heap.size + 1 + 1) (by omega) (by intro he; injection he with he; omega)).trans HG6.out)
  have HT7 := Lib.hid (HT6.out.trans (Two.of1 hgr))
  have hz7 : w3.heap.size ≤ w7.heap.size := Nat.le_trans hz6 hgr.size
  clear hstep hgr HG6 HN4
  have HN5 := Lib.hid (rnumS_calls hS4)
  clear hS4
  go_wp2_with fail
  refine HN5.out.mono ?_
  rintro e w8 ⟨m5, s5, rfl, hS5, hgr, hstep⟩
  have H5 := Lib.hid (show StepG (numR 1152921504606846976) s4 m5 s5 from hstep)
  have HG8 := Lib.hid ((hgr.block (w.heap.size + 1 + 1) (by omega) (by intro he; injection he with he; omega)).trans HG7.out)
  have HT8 := Lib.hid (HT7.out.trans (Two.of1 hgr))
  have hz8 : w3.heap.size ≤ w8.heap.size := Nat.le_trans hz7 hgr.size
  clear hstep hgr HG7 HN5
  have hgx := HG8.out
  have e0 := cell_of_row _ _ 0 _ _ (0, 0) hgx
  simp only [List.getElem?_toArray, List.getElem?_cons_succ, List.getElem?_cons_zero] at e0
  have e1 := cell_of_row _ _ 1 _ _ (0, 0) hgx
  simp only [List.getElem?_toArray, List.getElem?_cons_succ, List.getElem?_cons_zero] at e1
  have e2 := cell_of_row _ _ 2 _ _ (0, 0) hgx
  simp only [List.getElem?_toArray, List.getElem?_cons_succ, List.getElem?_cons_zero] at e2
  have e3 := cell_of_row _ _ 3 _ _ (0, 0) hgx
  simp only [List.getElem?_toArray, List.getElem?_cons_succ, List.getElem?_cons_zero] at e3
  have e4 := cell_of_row _ _ 4 _ _ (0, 0) hgx
  simp only [List.getElem?_toArray, List.getElem?_cons_succ, List.getElem?_cons_zero] at e4
  have hfz := fun o => frozen_of_row w8 (w.heap.size + 1 + 1) o _ _ hgx
  have p0 := put_row 0 (.int .i64 (m1 : Int)) hgx hS5 HT8.out (by omega)
  have p1 := put_row 1 (.int .i64 (m2 : Int)) p0.1 p0.2.1 p0.2.2 (by omega)
  have p2 := put_row 2 (.int .i64 (m3 : Int)) p1.1 p1.2.1 p1.2.2 (by omega)
  have p3 := put_row 3 (.int .i64 (m4 : Int)) p2.1 p2.2.1 p2.2.2 (by omega)
  have p4 := put_row 4 (.int .i64 (m5 : Int)) p3.1 p3.2.1 p3.2.2 (by omega)
  have hgn := p4.1
  simp only [List.set_cons_zero, List.set_cons_succ] at hgn
  have HSn := Lib.hid p4.2.1
  have HT9 := Lib.hid p4.2.2
  have hz9 : w3.heap.size ≤ (((((w8.setCell ⟨w.heap.size + 1 + 1, 0, none⟩ (.int .i64 (m1 : Int))).setCell ⟨w.heap.size + 1 + 1, 1, none⟩ (.int .i64 (m2 : Int))).setCell ⟨w.heap.size + 1 + 1, 2, none⟩ (.int .i64 (m3 : Int))).setCell ⟨w.heap.size + 1 + 1, 3, none⟩ (.int .i64 (m4 : Int))).setCell ⟨w.heap.size + 1 + 1, 4, none⟩ (.int .i64 (m5 : Int))).heap.size := by simpa using hz8
  obtain ⟨h5m, hh5⟩ : ∃ h5m : Mh, h5m = Mh.mk (m1 : Int) (m2 : Int) (m3 : Int) (m4 : Int) (m5 : Int) 0 0 0 0 false zeroC := ⟨_, rfl⟩
  have HG9 : Hid (((((((w8.setCell ⟨w.heap.size + 1 + 1, 0, none⟩ (.int .i64 (m1 : Int))).setCell ⟨w.heap.size + 1 + 1, 1, none⟩ (.int .i64 (m2 : Int))).setCell ⟨w.heap.size + 1 + 1, 2, none⟩ (.int .i64 (m3 : Int))).setCell ⟨w.heap.size + 1 + 1, 3, none⟩ (.int .i64 (m4 : Int))).setCell ⟨w.heap.size + 1 + 1, 4, none⟩ (.int .i64 (m5 : Int)))).heap[(w.heap.size + 1 + 1)]? = some (.cells #[.int .i64 h5m.kind, .int .i64 h5m.frm, .int .i64 h5m.to, .int .i64 h5m.ballot, .int .i64 h5m.slot, .int .i64 h5m.blob, .int .i64 h5m.index, .int .i64 h5m.epoch, .int .i64 h5m.id, .bool h5m.ok, .int .i64 h5m.cmd.id, .int .i64 h5m.cmd.kind, .string h5m.cmd.key, .int .i64 h5m.cmd.blob, .int .i64 h5m.cmd.other, .int .i64 h5m.cmd.index, .int .i64 h5m.cmd.node, .int .i64 h5m.cmd.size, .int .u32 h5m.cmd.sum, .int .i64 h5m.cmd.k, .int .i64 h5m.cmd.m, .slice none 0 0, .slice none 0 0, .slice none 0 0] 40 (0, 0))) := by
    show ((((((w8.setCell ⟨w.heap.size + 1 + 1, 0, none⟩ (.int .i64 (m1 : Int))).setCell ⟨w.heap.size + 1 + 1, 1, none⟩ (.int .i64 (m2 : Int))).setCell ⟨w.heap.size + 1 + 1, 2, none⟩ (.int .i64 (m3 : Int))).setCell ⟨w.heap.size + 1 + 1, 3, none⟩ (.int .i64 (m4 : Int))).setCell ⟨w.heap.size + 1 + 1, 4, none⟩ (.int .i64 (m5 : Int)))).heap[(w.heap.size + 1 + 1)]? = _
    rw [hh5]; exact hgn
  have HH5 := Lib.hid hh5
  have HN6 := Lib.hid (rnumS_calls HSn.out)
  clear hh5 HSn
  clear p4 p3 p2 p1 p0 hS5 hgx hgn
  go_wp2_with fail
  clear e0 e1 e2 e3 e4 hfz HG8
  generalize (((((w8.setCell ⟨w.heap.size + 1 + 1, 0, none⟩ (.int .i64 (m1 : Int))).setCell ⟨w.heap.size + 1 + 1, 1, none⟩ (.int .i64 (m2 : Int))).setCell ⟨w.heap.size + 1 + 1, 2, none⟩ (.int .i64 (m3 : Int))).setCell ⟨w.heap.size + 1 + 1, 3, none⟩ (.int .i64 (m4 : Int))).setCell ⟨w.heap.size + 1 + 1, 4, none⟩ (.int .i64 (m5 : Int))) = w9 at *
  refine HN6.out.mono ?_
  rintro e w10 ⟨m6, s6, rfl, hS6, hgr, hstep⟩
  have H6 := Lib.hid (show StepG (numR 1152921504606846976) s5 m6 s6 from hstep)
  have HG10 := Lib.hid ((hgr.block (w.heap.size + 1 + 1) (by omega) (by intro he; injection he with he; omega)).trans HG9.out)
  have HT10 := Lib.hid (HT9.out.trans (Two.of1 hgr))
  have hz10 : w3.heap.size ≤ w10.heap.size := Nat.le_trans hz9 hgr.size
  clear hstep hgr HG9 HN6
  have HN7 := Lib.hid (rnumS_calls hS6)
  clear hS6
  go_wp2_with fail
  refine HN7.out.mono ?_
  rintro e w11 ⟨m7, s7, rfl, hS7, hgr, hstep⟩
  have H7 := Lib.hid (show StepG (numR 1152921504606846976) s6 m7 s7 from hstep)
  have HG11 := Lib.hid ((hgr.block (w.heap.size + 1 + 1) (by omega) (by intro he; injection he with he; omega)).trans HG10.out)
  have HT11 := Lib.hid (HT10.out.trans (Two.of1 hgr))
  have hz11 : w3.heap.size ≤ w11.heap.size := Nat.le_trans hz10 hgr.size
  clear hstep hgr HG10 HN7
  have HN8 := Lib.hid (rnumS_calls hS7)
  clear hS7
  go_wp2_with fail
  refine HN8.out.mono ?_
  rintro e w12 ⟨m8, s8, rfl, hS8, hgr, hstep⟩
  have H8 := Lib.hid (show StepG (numR 1152921504606846976) s7 m8 s8 from hstep)
  have HG12 := Lib.hid ((hgr.block (w.heap.size + 1 + 1) (by omega) (by intro he; injection he with he; omega)).trans HG11.out)
  have HT12 := Lib.hid (HT11.out.trans (Two.of1 hgr))
  have hz12 : w3.heap.size ≤ w12.heap.size := Nat.le_trans hz11 hgr.size
  clear hstep hgr HG11 HN8
  have HN9 := Lib.hid (rnumS_calls hS8)
  clear hS8
  go_wp2_with fail
  refine HN9.out.mono ?_
  rintro e w13 ⟨m9, s9, rfl, hS9, hgr, hstep⟩
  have H9 := Lib.hid (show StepG (numR 1152921504606846976) s8 m9 s9 from hstep)
  have HG13 := Lib.hid ((hgr.block (w.heap.size + 1 + 1) (by omega) (by intro he; injection he with he; omega)).trans HG12.out)
  have HT13 := Lib.hid (HT12.out.trans (Two.of1 hgr))
  have hz13 : w3.heap.size ≤ w13.heap.size := Nat.le_trans hz12 hgr.size
  clear hstep hgr HG12 HN9
  have hgx := HG13.out
  have e5 := cell_of_row _ _ 5 _ _ (0, 0) hgx
  simp only [List.getElem?_toArray, List.getElem?_cons_succ, List.getElem?_cons_zero] at e5
  have e6 := cell_of_row _ _ 6 _ _ (0, 0) hgx
  simp only [List.getElem?_toArray, List.getElem?_cons_succ, List.getElem?_cons_zero] at e6
  have e7 := cell_of_row _ _ 7 _ _ (0, 0) hgx
  simp only [List.getElem?_toArray, List.getElem?_cons_succ, List.getElem?_cons_zero] at e7
  have e8 := cell_of_row _ _ 8 _ _ (0, 0) hgx
  simp only [List.getElem?_toArray, List.getElem?_cons_succ, List.getElem?_cons_zero] at e8
  have hfz := fun o => frozen_of_row w13 (w.heap.size + 1 + 1) o _ _ hgx
  have p0 := put_row 5 (.int .i64 (m6 : Int)) hgx hS9 HT13.out (by omega)
  have p1 := put_row 6 (.int .i64 (m7 : Int)) p0.1 p0.2.1 p0.2.2 (by omega)
  have p2 := put_row 7 (.int .i64 (m8 : Int)) p1.1 p1.2.1 p1.2.2 (by omega)
  have p3 := put_row 8 (.int .i64 (m9 : Int)) p2.1 p2.2.1 p2.2.2 (by omega)
  have hgn := p3.1
  simp only [List.set_cons_zero, List.set_cons_succ] at hgn
  have HSn := Lib.hid p3.2.1
  have HT14 := Lib.hid p3.2.2
  have hz14 : w3.heap.size ≤ ((((w13.setCell ⟨w.heap.size + 1 + 1, 5, none⟩ (.int .i64 (m6 : Int))).setCell ⟨w.heap.size + 1 + 1, 6, none⟩ (.int .i64 (m7 : Int))).setCell ⟨w.heap.size + 1 + 1, 7, none⟩ (.int .i64 (m8 : Int))).setCell ⟨w.heap.size + 1 + 1, 8, none⟩ (.int .i64 (m9 : Int))).heap.size := by simpa using hz13
  obtain ⟨h9m, hh9⟩ : ∃ h9m : Mh, h9m = Mh.mk (m1 : Int) (m2 : Int) (m3 : Int) (m4 : Int) (m5 : Int) (m6 : Int) (m7 : Int) (m8 : Int) (m9 : Int) false zeroC := ⟨_, rfl⟩
  have HG14 : Hid ((((((w13.setCell ⟨w.heap.size + 1 + 1, 5, none⟩ (.int .i64 (m6 : Int))).setCell ⟨w.heap.size + 1 + 1, 6, none⟩ (.int .i64 (m7 : Int))).setCell ⟨w.heap.size + 1 + 1, 7, none⟩ (.int .i64 (m8 : Int))).setCell ⟨w.heap.size + 1 + 1, 8, none⟩ (.int .i64 (m9 : Int)))).heap[(w.heap.size + 1 + 1)]? = some (.cells #[.int .i64 h9m.kind, .int .i64 h9m.frm, .int .i64 h9m.to, .int .i64 h9m.ballot, .int .i64 h9m.slot, .int .i64 h9m.blob, .int .i64 h9m.index, .int .i64 h9m.epoch, .int .i64 h9m.id, .bool h9m.ok, .int .i64 h9m.cmd.id, .int .i64 h9m.cmd.kind, .string h9m.cmd.key, .int .i64 h9m.cmd.blob, .int .i64 h9m.cmd.other, .int .i64 h9m.cmd.index, .int .i64 h9m.cmd.node, .int .i64 h9m.cmd.size, .int .u32 h9m.cmd.sum, .int .i64 h9m.cmd.k, .int .i64 h9m.cmd.m, .slice none 0 0, .slice none 0 0, .slice none 0 0] 40 (0, 0))) := by
    show (((((w13.setCell ⟨w.heap.size + 1 + 1, 5, none⟩ (.int .i64 (m6 : Int))).setCell ⟨w.heap.size + 1 + 1, 6, none⟩ (.int .i64 (m7 : Int))).setCell ⟨w.heap.size + 1 + 1, 7, none⟩ (.int .i64 (m8 : Int))).setCell ⟨w.heap.size + 1 + 1, 8, none⟩ (.int .i64 (m9 : Int)))).heap[(w.heap.size + 1 + 1)]? = _
    rw [hh9]; rw [HH5.out] at hgn; exact hgn
  have HH9 := Lib.hid hh9
  have HN10 := Lib.hid (rtakeS_calls HSn.out 1)
  clear hh9 HSn HH5
  clear p3 p2 p1 p0 hS9 hgx hgn
  go_wp2_with fail
  clear e5 e6 e7 e8 hfz HG13
  generalize ((((w13.setCell ⟨w.heap.size + 1 + 1, 5, none⟩ (.int .i64 (m6 : Int))).setCell ⟨w.heap.size + 1 + 1, 6, none⟩ (.int .i64 (m7 : Int))).setCell ⟨w.heap.size + 1 + 1, 7, none⟩ (.int .i64 (m8 : Int))).setCell ⟨w.heap.size + 1 + 1, 8, none⟩ (.int .i64 (m9 : Int))) = w14 at *
  have HNUM := Lib.hid (show StepG (numsR 1152921504606846976 9) (some l) [m1, m2, m3, m4, m5, m6, m7, m8, m9] s9 from ((((((((StepG.nil.snoc H1.out).snoc H2.out).snoc H3.out).snoc H4.out).snoc H5.out).snoc H6.out).snoc H7.out).snoc H8.out).snoc H9.out)
  clear H1 H2 H3 H4 H5 H6 H7 H8 H9
  clear HT4 HT5 HT6 HT7 HT8 HT9 HT10 HT11 HT12 HT13
  refine HN10.out.mono ?_
  rintro e w15 ⟨A10, c10, t10, s10, rfl, hA10, hfar10, hnil10, hS10, hgr, hstep, hlt10, hcap10⟩
  have H10 := Lib.hid hstep
  have HG15 := Lib.hid ((hgr.block (w.heap.size + 1 + 1) (by omega) (by intro he; injection he with he; omega)).trans HG14.out)
  have HT15 := Lib.hid (HT14.out.trans (Two.of1 hgr))
  have hz15 : w3.heap.size ≤ w15.heap.size := Nat.le_trans hz14 hgr.size
  clear hstep hgr HG14 HN10 HT14
  have hcase := ok_step H10.out
  obtain ⟨hfc, hff⟩ := hS10.flag
  have HF := Lib.hid (And.intro hfc hff)
  have HS10 := Lib.hid hS10
  have HA10 := Lib.hid hA10
  clear hS10 hA10 H10 hnil10 hfar10 hfc hff
  rcases hcase with ⟨rfl, hstep⟩ | ⟨x, r, rfl, rfl, hs1, hs2⟩
  · obtain ⟨hSb, hgb⟩ := HS10.out.bad
    have HS16 := Lib.hid hSb
    have HT16 := Lib.hid (HT15.out.trans (Two.of1 hgb))
    have HG16' := Lib.hid ((heap_setCell_other w15 ⟨w.heap.size + 1, 1, none⟩ (w.heap.size + 1 + 1) (.bool true) (by simp)).trans HG15.out)
    have hz16 : w3.heap.size ≤ (w15.setCell ⟨w.heap.size + 1, 1, none⟩ (.bool true)).heap.size := by simpa using hz15
    obtain ⟨okv, hokv⟩ : ∃ okv : Bool, okv = false := ⟨_, rfl⟩
    obtain ⟨h10m, hh10⟩ : ∃ h10m : Mh, h10m = Mh.mk (m1 : Int) (m2 : Int) (m3 : Int) (m4 : Int) (m5 : Int) (m6 : Int) (m7 : Int) (m8 : Int) (m9 : Int) okv zeroC := ⟨_, rfl⟩
    have HG16 : Hid ((w15.setCell ⟨w.heap.size + 1, 1, none⟩ (.bool true)).heap[w.heap.size + 1 + 1]? = some (.cells #[.int .i64 h10m.kind, .int .i64 h10m.frm, .int .i64 h10m.to, .int .i64 h10m.ballot, .int .i64 h10m.slot, .int .i64 h10m.blob, .int .i64 h10m.index, .int .i64 h10m.epoch, .int .i64 h10m.id, .bool h10m.ok, .int .i64 h10m.cmd.id, .int .i64 h10m.cmd.kind, .string h10m.cmd.key, .int .i64 h10m.cmd.blob, .int .i64 h10m.cmd.other, .int .i64 h10m.cmd.index, .int .i64 h10m.cmd.node, .int .i64 h10m.cmd.size, .int .u32 h10m.cmd.sum, .int .i64 h10m.cmd.k, .int .i64 h10m.cmd.m, .slice none 0 0, .slice none 0 0, .slice none 0 0] 40 (0, 0))) := by
      show _ = _
      rw [HG16'.out, hh10, HH9.out, hokv]
    have H11 := Lib.hid (hstep okv)
    have HH10 := Lib.hid hh10
    clear hSb hgb HG16' hokv hh10 hstep
    obtain ⟨hfc, hff⟩ := HF.out
    simp only [Option.isNone_none] at hfc
    go_wp2_with fail
    clear hfc hff
    generalize w15.setCell ⟨w.heap.size + 1, 1, none⟩ (.bool true) = w16 at *
    clear HG15 HT15 HS10 HA10 HF HH9
    have HN11 := Lib.hid (rcmdS_calls HS16.out)
    clear HS16
    refine HN11.out.mono ?_
    rintro e w17 ⟨cc, cn, P, e', s12, rfl, hS17, hgr17, hown17, hstep, hcl, hsm⟩
    have H12 := Lib.hid (show StepG readC none (cc, cn) s12 from hstep)
    have HSM := Lib.hid hsm
    have hg17 := (hgr17.block (w.heap.size + 1 + 1) (by omega) (by intro he; injection he with he; omega)).trans HG16.out
    have HT17 := Lib.hid (HT16.out.trans (Two.of1 hgr17))
    have hz17 := hgr17.size
    obtain ⟨h11m, hh11m⟩ : ∃ h11m : Mh, h11m = Mh.withC h10m cc := ⟨_, rfl⟩
    have hnew : (#[.int .i64 h10m.kind, .int .i64 h10m.frm, .int .i64 h10m.to, .int .i64 h10m.ballot, .int .i64 h10m.slot, .int .i64 h10m.blob, .int .i64 h10m.index, .int .i64 h10m.epoch, .int .i64 h10m.id, .bool h10m.ok, .int .i64 h10m.cmd.id, .int .i64 h10m.cmd.kind, .string h10m.cmd.key, .int .i64 h10m.cmd.blob, .int .i64 h10m.cmd.other, .int .i64 h10m.cmd.index, .int .i64 h10m.cmd.node, .int .i64 h10m.cmd.size, .int .u32 h10m.cmd.sum, .int .i64 h10m.cmd.k, .int .i64 h10m.cmd.m, .slice none 0 0, .slice none 0 0, .slice none 0 0] : Array Value).toList.take 10 ++ [.int .i64 cc.id, .int .i64 cc.kind, .string cc.key, .int .i64 cc.blob, .int .i64 cc.other, .int .i64 cc.index, .int .i64 cc.node, .int .i64 cc.size, .int .u32 cc.sum, .int .i64 cc.k, .int .i64 cc.m, .slice P cn.length e'] ++ (#[.int .i64 h10m.kind, .int .i64 h10m.frm, .int .i64 h10m.to, .int .i64 h10m.ballot, .int .i64 h10m.slot, .int .i64 h10m.blob, .int .i64 h10m.index, .int .i64 h10m.epoch, .int .i64 h10m.id, .bool h10m.ok, .int .i64 h10m.cmd.id, .int .i64 h10m.cmd.kind, .string h10m.cmd.key, .int .i64 h10m.cmd.blob, .int .i64 h10m.cmd.other, .int .i64 h10m.cmd.index, .int .i64 h10m.cmd.node, .int .i64 h10m.cmd.size, .int .u32 h10m.cmd.sum, .int .i64 h10m.cmd.k, .int .i64 h10m.cmd.m, .slice none 0 0, .slice none 0 0, .slice none 0 0] : Array Value).toList.drop (10 + 12) = (#[.int .i64 h11m.kind, .int .i64 h11m.frm, .int .i64 h11m.to, .int .i64 h11m.ballot, .int .i64 h11m.slot, .int .i64 h11m.blob, .int .i64 h11m.index, .int .i64 h11m.epoch, .int .i64 h11m.id, .bool h11m.ok, .int .i64 h11m.cmd.id, .int .i64 h11m.cmd.kind, .string h11m.cmd.key, .int .i64 h11m.cmd.blob, .int .i64 h11m.cmd.other, .int .i64 h11m.cmd.index, .int .i64 h11m.cmd.node, .int .i64 h11m.cmd.size, .int .u32 h11m.cmd.sum, .int .i64 h11m.cmd.k, .int .i64 h11m.cmd.m, .slice P cn.length e', .slice none 0 0, .slice none 0 0] : Array Value).toList := by rw [hh11m]; exact msg_put _ _ _ _ _ _
    have HNEW := Lib.hid hnew
    have HH11 := Lib.hid hh11m
    have hown17' := own_lower hown17 (show w3.heap.size ≤ w16.heap.size by omega)
    clear hstep hsm hgr17 HN11 HG16 HT16 hnew hh11m hown17
    unfold cmv
    go_wp2_with (refine wpList_put_at rfl 27 (.tmp 60) (.tmp 59) rfl (w.heap.size + 1 + 1) 10 [.int .i64 cc.id, .int .i64 cc.kind, .string cc.key, .int .i64 cc.blob, .int .i64 cc.other, .int .i64 cc.index, .int .i64 cc.node, .int .i64 cc.size, .int .u32 cc.sum, .int .i64 cc.k, .int .i64 cc.m, .slice P cn.length e'] rfl rfl 40 _ #[.int .i64 h11m.kind, .int .i64 h11m.frm, .int .i64 h11m.to, .int .i64 h11m.ballot, .int .i64 h11m.slot, .int .i64 h11m.blob, .int .i64 h11m.index, .int .i64 h11m.epoch, .int .i64 h11m.id, .bool h11m.ok, .int .i64 h11m.cmd.id, .int .i64 h11m.cmd.kind, .string h11m.cmd.key, .int .i64 h11m.cmd.blob, .int .i64 h11m.cmd.other, .int .i64 h11m.cmd.index, .int .i64 h11m.cmd.node, .int .i64 h11m.cmd.size, .int .u32 h11m.cmd.sum, .int .i64 h11m.cmd.k, .int .i64 h11m.cmd.m, .slice P cn.length e', .slice none 0 0, .slice none 0 0] hg17 (by kernel_rfl) (by show (22 : Nat) ≤ 24; decide) (cmd_one cc P cn.length e') HNEW.out ?_; intro w18 hgr18 hg18; have hS18 := hS17.grown hgr18 (by omega); have HN12 := Lib.hid (rlistS_calls (most := 1000) hS18 (by decide)))
    have hz18 := hgr18.size
    have HG18 := Lib.hid hg18
    have HT18 := Lib.hid (HT17.out.trans (Two.of2 hgr18))
    have hown18 := own_keep hown17' hgr18 (by omega)
    clear hg18 hgr18 hg17 hown17' hS17 hS18 HNEW HT17
    refine HN12.out.mono ?_
    rintro e w19 ⟨nn, s13, rfl, hS19, hgr19, hstep, hnn⟩
    have H13 := Lib.hid (show StepG (numR 1000) s12 nn s13 from hstep)
    have hT19 := HT18.out.trans (Two.of1 hgr19)
    have HG19 := Lib.hid ((hgr19.block (w.heap.size + 1 + 1) (by omega) (by intro he; injection he with he; omega)).trans HG18.out)
    have hown19 := own_keep hown18 hgr19 (by omega)
    have hz19 := hgr19.size
    clear hstep HN12 HG18 hown18 hgr19 HT18
    go_wp2_with fail
    have hnil19 : w19.ownsRow w3.heap.size 74 14 (.slice none 0 0) 0 [] := World.ownsRow_nil _ _ _ _
    go_loopw [63] (fun s63 wr => ∃ (t : Nat) (V : List Vt) (sl : Option (List B8)) (X : Option Addr) (ev : Nat) (us : List Value), t ≤ nn ∧ s63 = .int .i64 ((t : Nat) : Int) ∧ V.length = t ∧ Hid (StepG (votesR t) s13 V sl) ∧ RdS wr (w.heap.size + 1) sl ∧ Hid (wr.heap[w.heap.size + 1 + 1]? = some (.cells #[.int .i64 h11m.kind, .int .i64 h11m.frm, .int .i64 h11m.to, .int .i64 h11m.ballot, .int .i64 h11m.slot, .int .i64 h11m.blob, .int .i64 h11m.index, .int .i64 h11m.epoch, .int .i64 h11m.id, .bool h11m.ok, .int .i64 h11m.cmd.id, .int .i64 h11m.cmd.kind, .string h11m.cmd.key, .int .i64 h11m.cmd.blob, .int .i64 h11m.cmd.other, .int .i64 h11m.cmd.index, .int .i64 h11m.cmd.node, .int .i64 h11m.cmd.size, .int .u32 h11m.cmd.sum, .int .i64 h11m.cmd.k, .int .i64 h11m.cmd.m, .slice P cn.length e', .slice X t ev, .slice none 0 0] 40 (0, 0))) ∧ wr.ownsRow w3.heap.size 74 14 (.slice X t ev) t us ∧ Hid (VtsO wr w3.heap.size us V) ∧ Two w3 wr (w.heap.size + 1) (w.heap.size + 1 + 1) ∧ wr.ownsRow w3.heap.size 3 1 (.slice P cn.length e') cn.length (ints cn)) (fun s63 _ => nn - (intOf s63).toNat)
    case atStart => exact ⟨0, [], s13, none, 0, [], by omega, rfl, rfl, Lib.hid StepG.votes0, hS19, HG19, hnil19, rfl, hT19, hown19⟩
    case round =>
      obtain ⟨t, V, sl, X, ev, us, ht, rfl, hVl, HV, hS, HG, hvo, HVO, hT, hco⟩ := hrel
      rename World => wr
      clear hS19 HG19 hnil19 hT19 hown19
      have hzr := hT.size
      by_cases htn : t < nn
      · have hti : (t : Int) < (nn : Int) := by omega
        have HN20 := Lib.hid (rnumS_calls hS)
        have HTr := Lib.hid hT
        clear hS hT
        go_wp2_with fail
        refine HN20.out.mono ?_
        rintro e w20 ⟨b0, s20, rfl, hS20, hgr20, hstep⟩
        have H20 := Lib.hid (show StepG (numR 1152921504606846976) sl b0 s20 from hstep)
        have HGR20 := Lib.hid hgr20
        have hz20 := hgr20.size
        have HN21 := Lib.hid (rnumS_calls hS20)
        clear hstep hgr20 HN20 hS20
        go_wp2_with fail
        refine HN21.out.mono ?_
        rintro e w21 ⟨b1, s21, rfl, hS21, hgr21, hstep⟩
        have H21 := Lib.hid (show StepG (numR 1152921504606846976) s20 b1 s21 from hstep)
        have HGR21 := Lib.hid hgr21
        have hz21 := hgr21.size
        obtain ⟨w22, hw22, hB22, hv22, hz22⟩ := any_box w21 #[.int .i64 (b0 : Int), .int .i64 (b1 : Int), .int .i64 zeroC.id, .int .i64 zeroC.kind, .string zeroC.key, .int .i64 zeroC.blob, .int .i64 zeroC.other, .int .i64 zeroC.index, .int .i64 zeroC.node, .int .i64 zeroC.size, .int .u32 zeroC.sum, .int .i64 zeroC.k, .int .i64 zeroC.m, .slice none 0 0] 74
        have HN23 := Lib.hid (rcmdS_calls (hS21.belowB hB22 (by omega)))
        have HW22 := Lib.hid hw22
        have HB22 := Lib.hid hB22
        have HV22 := Lib.hid hv22
        clear hstep hgr21 HN21 hS21 hw22 hB22 hv22
        go_wp2_with fail
        have hw22 := HW22.out
        rw [show w21.alloc (.cells #[.int .i64 (b0 : Int), .int .i64 (b1 : Int), .int .i64 0, .int .i64 0, .string ⟨#[]⟩, .int .i64 0, .int .i64 0, .int .i64 0, .int .i64 0, .int .i64 0, .int .u32 0, .int .i64 0, .int .i64 0, .slice none 0 0] 74) = w22 from hw22.symm]
        clear hw22 HW22
        refine HN23.out.mono ?_
        rintro e w23 ⟨vc, vn, Pv, ev', s23, rfl, hS23, hgr23, hown23, hstep, hvl, hvs⟩
        have H23 := Lib.hid (show StepG readC s21 (vc, vn) s23 from hstep)
        have hg23 := (hgr23.block w21.heap.size (by omega) (by intro he; injection he with he; omega)).trans HV22.out
        have hz23 := hgr23.size
        have HGR23 := Lib.hid hgr23
        have HVS := Lib.hid hvs
        clear hstep hgr23 HN23 HV22 hvs
        unfold cmv
        go_wp2_with (first
          | (refine wpList_put_at rfl 27 (.tmp 72) (.tmp 71) rfl w21.heap.size 2 [.int .i64 vc.id, .int .i64 vc.kind, .string vc.key, .int .i64 vc.blob, .int .i64 vc.other, .int .i64 vc.index, .int .i64 vc.node, .int .i64 vc.size, .int .u32 vc.sum, .int .i64 vc.k, .int .i64 vc.m, .slice Pv vn.length ev'] rfl rfl 74 _ #[.int .i64 (b0 : Int), .int .i64 (b1 : Int), .int .i64 vc.id, .int .i64 vc.kind, .string vc.key, .int .i64 vc.blob, .int .i64 vc.other, .int .i64 vc.index, .int .i64 vc.node, .int .i64 vc.size, .int .u32 vc.sum, .int .i64 vc.k, .int .i64 vc.m, .slice Pv vn.length ev'] hg23 (by kernel_rfl) (by show (14 : Nat) ≤ 14; decide) (cmd_one vc Pv vn.length ev') (vote_put _ _ _ _ _ _) ?_; intro w24 hgr24 hg24
             have hz24 := hgr24.size
             have hgN := (hgr24.block (w.heap.size + 1 + 1) (by omega) (by intro he; injection he with he; omega)).trans ((HGR23.out.block (w.heap.size + 1 + 1) (by omega) (by intro he; injection he with he; omega)).trans ((HB22.out.block (w.heap.size + 1 + 1) (by omega)).trans ((HGR21.out.block (w.heap.size + 1 + 1) (by omega) (by intro he; injection he with he; omega)).trans ((HGR20.out.block (w.heap.size + 1 + 1) (by omega) (by intro he; injection he with he; omega)).trans HG.out))))
             have c22 := cell_of_row _ _ 22 _ _ (0, 0) hgN
             simp only [List.getElem?_toArray, List.getElem?_cons_succ, List.getElem?_cons_zero] at c22
             have hat24 : At w24 (some ⟨w21.heap.size, 0, none⟩) [.int .i64 (b0 : Int), .int .i64 (b1 : Int), .int .i64 vc.id, .int .i64 vc.kind, .string vc.key, .int .i64 vc.blob, .int .i64 vc.other, .int .i64 vc.index, .int .i64 vc.node, .int .i64 vc.size, .int .u32 vc.sum, .int .i64 vc.k, .int .i64 vc.m, .slice Pv vn.length ev'] := at_cells hg24
             have hks : KeepS w3.heap.size w21.heap.size w21 w24 := fun k hk1 hk2 => (hgr24.block k (by omega) (by intro he; injection he with he; omega)).trans ((HGR23.out.block k (by omega) (by intro he; injection he with he; omega)).trans (HB22.out.block k (by omega)))
             have ho24 := own_keepS (own_keep (own_keep hvo HGR20.out (by omega)) HGR21.out (by omega)) hks
             have HCO24 := Lib.hid (own_keepS (own_keep (own_keep hco HGR20.out (by omega)) HGR21.out (by omega)) hks)
             have HVO24 := Lib.hid (VtsO.map (fun v n xs h => own_keepS (own_keep (own_keep h HGR20.out (by omega)) HGR21.out (by omega)) hks) _ _ HVO.out)
             have hnv24 := own_keep hown23 hgr24 (by omega)
             have hbl := below1' w24 (.cells #[.int .i64 (b0 : Int), .int .i64 (b1 : Int), .int .i64 vc.id, .int .i64 vc.kind, .string vc.key, .int .i64 vc.blob, .int .i64 vc.other, .int .i64 vc.index, .int .i64 vc.node, .int .i64 vc.size, .int .u32 vc.sum, .int .i64 vc.k, .int .i64 vc.m, .slice Pv vn.length ev'] 74)
             have hat25 : At (w24.alloc (.cells #[.int .i64 (b0 : Int), .int .i64 (b1 : Int), .int .i64 vc.id, .int .i64 vc.kind, .string vc.key, .int .i64 vc.blob, .int .i64 vc.other, .int .i64 vc.index, .int .i64 vc.node, .int .i64 vc.size, .int .u32 vc.sum, .int .i64 vc.k, .int .i64 vc.m, .slice Pv vn.length ev'] 74)) (some ⟨w24.heap.size, 0, none⟩) [.int .i64 (b0 : Int), .int .i64 (b1 : Int), .int .i64 vc.id, .int .i64 vc.kind, .string vc.key, .int .i64 vc.blob, .int .i64 vc.other, .int .i64 vc.index, .int .i64 vc.node, .int .i64 vc.size, .int .u32 vc.sum, .int .i64 vc.k, .int .i64 vc.m, .slice Pv vn.length ev'] := at_alloc w24 #[.int .i64 (b0 : Int), .int .i64 (b1 : Int), .int .i64 vc.id, .int .i64 vc.kind, .string vc.key, .int .i64 vc.blob, .int .i64 vc.other, .int .i64 vc.index, .int .i64 vc.node, .int .i64 vc.size, .int .u32 vc.sum, .int .i64 vc.k, .int .i64 vc.m, .slice Pv vn.length ev'] 74 (0, 0)
             have ho25 := own_below ho24 hbl
             have hsz25 : w3.heap.size ≤ (w24.alloc (.cells #[.int .i64 (b0 : Int), .int .i64 (b1 : Int), .int .i64 vc.id, .int .i64 vc.kind, .string vc.key, .int .i64 vc.blob, .int .i64 vc.other, .int .i64 vc.index, .int .i64 vc.node, .int .i64 vc.size, .int .u32 vc.sum, .int .i64 vc.k, .int .i64 vc.m, .slice Pv vn.length ev'] 74)).heap.size := by simp; omega
             have HG24 := Lib.hid hgN
             have HS24 := Lib.hid (hS23.grown hgr24 (by omega))
             have HT24 := Lib.hid ((((((HTr.out.trans (Two.of1 HGR20.out)).trans (Two.of1 HGR21.out)).below (HB22.out.mono (by omega))).trans (Two.of1 HGR23.out))).new (Two.of2 (p := (w.heap.size + 1)) hgr24) (by omega))
             have HNV24 := Lib.hid (own_lower hnv24 (show w3.heap.size ≤ w22.heap.size by omega))
             clear hgN hks hvo hco hnv24 hgr24 hg23 hown23 hS23)
          | (refine wpList_load_at rfl 74 (.tmp 7) rfl rfl hat24 Try.underlying74 rfl (by kernel_rfl) ?_)
          | (refine app_vote rfl (.tmp 74) (.tmp 76) rfl w3.heap.size (v := .slice X t ev) rfl ho25 rfl (news := [.int .i64 (b0 : Int), .int .i64 (b1 : Int), .int .i64 vc.id, .int .i64 vc.kind, .string vc.key, .int .i64 vc.blob, .int .i64 vc.other, .int .i64 vc.index, .int .i64 vc.node, .int .i64 vc.size, .int .u32 vc.sum, .int .i64 vc.k, .int .i64 vc.m, .slice Pv vn.length ev']) rfl hat25 (vtc_one (s := (b0 : Int)) (b := (b1 : Int)) vc Pv vn.length ev') (by intro h; cases h) (by omega) hsz25 ?_; intro X15 ev15 w26 ho26 hb26 hg26 hcap26
             have hg26G := (hb26.block (w.heap.size + 1 + 1) (by omega)).trans ((hbl.block (w.heap.size + 1 + 1) (by omega)).trans HG24.out)
             have d22 := cell_of_row _ _ 22 _ _ (0, 0) hg26G
             have f22 := frozen_of_row _ _ 22 _ _ hg26G
             simp only [List.getElem?_toArray, List.getElem?_cons_succ, List.getElem?_cons_zero] at d22))
        have fk : ∀ v n xs, w24.ownsRow w3.heap.size 3 1 v n xs → (w26.setCell ⟨w.heap.size + 1 + 1, 22, none⟩ (.slice X15 (t + 1) ev15)).ownsRow w3.heap.size 3 1 v n xs := fun v n xs h =>
          ownsRow_setCell_below ((own_below h hbl).kept hg26.1 (own_part (own_below h hbl) ho25 (by decide))) (show w.heap.size + 1 + 1 < w3.heap.size by omega) _
        have hSF := ((HS24.out.belowB hbl (by omega)).belowB hb26 (by omega)).other (o := 22) (v := .slice X15 (t + 1) ev15) (by omega : (w.heap.size + 1) < (w.heap.size + 1 + 1))
        have hsetF := heap_setCell_same w26 (w.heap.size + 1 + 1) 22 _ _ (.slice X15 (t + 1) ev15) hg26G
        have hoF := ownsRow_setCell_below ho26 (show w.heap.size + 1 + 1 < w3.heap.size by omega) (.slice X15 (t + 1) ev15) (a := ⟨w.heap.size + 1 + 1, 22, none⟩)
        have hTF := ((HT24.out.below (hbl.mono (by omega))).below hb26).trans (Two.of2 (p := (w.heap.size + 1)) (grown_set w26 (w.heap.size + 1 + 1) 22 (.slice X15 (t + 1) ev15)))
        have hVF := VtsO.snoc (v := ((b0 : Int), (b1 : Int), vc, vn)) (cs := [.int .i64 (b0 : Int), .int .i64 (b1 : Int), .int .i64 vc.id, .int .i64 vc.kind, .string vc.key, .int .i64 vc.blob, .int .i64 vc.other, .int .i64 vc.index, .int .i64 vc.node, .int .i64 vc.size, .int .u32 vc.sum, .int .i64 vc.k, .int .i64 vc.m, .slice Pv vn.length ev']) ⟨Pv, ev', rfl, fk _ _ _ HNV24.out, hvl, HVS.out⟩ _ _ (VtsO.map fk _ _ HVO24.out)
        have hstp : StepG (numsR 1152921504606846976 2) sl [b0, b1] s21 := (StepG.nil.snoc H20.out).snoc H21.out
        exact ⟨⟨t + 1, V ++ [((b0 : Int), (b1 : Int), vc, vn)], s23, X15, ev15, us ++ [.int .i64 (b0 : Int), .int .i64 (b1 : Int), .int .i64 vc.id, .int .i64 vc.kind, .string vc.key, .int .i64 vc.blob, .int .i64 vc.other, .int .i64 vc.index, .int .i64 vc.node, .int .i64 vc.size, .int .u32 vc.sum, .int .i64 vc.k, .int .i64 vc.m, .slice Pv vn.length ev'], by omega, by go_num, by simp [hVl], Lib.hid (StepG.vote HV.out hstp H23.out), hSF, Lib.hid hsetF, hoF, Lib.hid hVF, hTF, fk _ _ _ HCO24.out⟩, by simp [intOf]; omega⟩
      · obtain rfl : nn = t := by omega
        subst hVl
        go_wp2_with fail
        have hD : Below wr.heap.size wr wr.drew := (belowN 1 : Below wr.heap.size wr (wr.drewN 1))
        have hSD := hS.belowB hD (by omega)
        have HGD := Lib.hid ((hD.block (w.heap.size + 1 + 1) (by omega)).trans HG.out)
        have HRD := Lib.hid ((hD.block w.heap.size (by omega)).trans ((hT.block w.heap.size (by omega) (by omega) (by omega)).trans HR3.out))
        have HVD := Lib.hid (own_below hvo hD)
        have HVOD := Lib.hid (VtsO.map (fun v n xs h => own_below h hD) _ _ HVO.out)
        have HCD := Lib.hid (own_below hco hD)
        have HTD := Lib.hid (hT.below (hD.mono hzr))
        have hzD : w3.heap.size ≤ wr.drew.heap.size := Nat.le_trans hzr hD.size
        refine wp_region_held_drew (S := fun _ => True) (by kernel_rfl) trivial (fun _ => ?_)
        generalize wr.drew = WD at *
        clear hD hS HG hvo HVO hco hT
        have c23D := cell_of_row _ _ 23 _ _ (0, 0) HGD.out
        simp only [List.getElem?_toArray, List.getElem?_cons_succ, List.getElem?_cons_zero] at c23D
        have HN30 := Lib.hid (rlistS_calls (most := 2000) hSD (by decide))
        clear hSD
        refine wpAnyH_take (i := 0) (v := ?_) rfl (by kernel_rfl) (by kernel_rfl) (by kernel_rfl) (fun _ _ _ h => h) (Or.inl ⟨by rfl, ?_⟩) (by assumption) ?_; rotate_left; (intro w hSw; (try dsimp only at hSw); go_simp; (first | done | (with_reducible rfl))); (try simp only [List.getElem_toArray, List.getElem_cons_succ, List.getElem_cons_zero, Act.put, List.setIfInBounds_toArray, List.set_cons_zero, List.set_cons_succ])
        refine wpAnyH_take (i := 2) (v := ?_) rfl (by kernel_rfl) (by kernel_rfl) (by kernel_rfl) (fun _ _ _ h => h) (Or.inl ⟨by rfl, ?_⟩) (by assumption) ?_; rotate_left; (intro w hSw; (try dsimp only at hSw); go_simp; (first | done | (with_reducible rfl))); (try simp only [List.getElem_toArray, List.getElem_cons_succ, List.getElem_cons_zero, Act.put, List.setIfInBounds_toArray, List.set_cons_zero, List.set_cons_succ])
        refine wpAnyH_take (i := 3) (v := ?_) rfl (by kernel_rfl) (by kernel_rfl) (by kernel_rfl) (fun _ _ _ h => h) (Or.inl ⟨by rfl, ?_⟩) (by assumption) ?_; rotate_left; (intro w hSw; (try dsimp only at hSw); go_simp; (first | done | (with_reducible rfl))); (try simp only [List.getElem_toArray, List.getElem_cons_succ, List.getElem_cons_zero, Act.put, List.setIfInBounds_toArray, List.set_cons_zero, List.set_cons_succ])
        refine wpAnyH_ready (rs := [1, 4]) (by kernel_rfl) (by simp) ?_
        refine AllReadyH.cons rfl (fun KK hKK => ?_) (AllReadyH.cons rfl (fun KK hKK => ?_) AllReadyH.nil)
        · skip
          go_simp
          go_wp2_with fail
          refine hKK.out _ _ trivial (fun _ => ?_)
          clear hKK KK
          (try simp only [List.getElem_toArray, List.getElem_cons_succ, List.getElem_cons_zero, Act.put, List.setIfInBounds_toArray, List.set_cons_zero, List.set_cons_succ])
          refine wpAnyH_ready (rs := [4]) (by kernel_rfl) (by simp) ?_; refine AllReadyH.cons rfl (fun KK hKK => ?_) AllReadyH.nil
          go_simp
          refine HN30.out.mono ?_
          rintro e w31 ⟨kk, s30, rfl, hS31, hgr31, hstep, hkk⟩
          have H30 := Lib.hid (show StepG (numR 2000) sl kk s30 from hstep)
          have hz31 := hgr31.size
          have hg31 := (hgr31.block (w.heap.size + 1 + 1) (by omega) (by intro he; injection he with he; omega)).trans HGD.out
          have c23a := cell_of_row _ _ 23 _ _ (0, 0) hg31
          simp only [List.getElem?_toArray, List.getElem?_cons_succ, List.getElem?_cons_zero] at c23a
          have HG31 := Lib.hid hg31
          have HGR31 := Lib.hid hgr31
          have HN31 := Lib.hid (rtakeS_calls hS31 kk)
          clear hstep hgr31 hg31 HN30 hS31
          go_wp2_with fail
          refine hKK.out _ _ trivial (fun _ => ?_)
          clear hKK KK
          (try simp only [List.getElem_toArray, List.getElem_cons_succ, List.getElem_cons_zero, Act.put, List.setIfInBounds_toArray, List.set_cons_zero, List.set_cons_succ])
          refine wpAnyH_ready (rs := [5]) (by kernel_rfl) (by simp) ?_; refine AllReadyH.cons rfl (fun KK hKK => ?_) AllReadyH.nil
          go_simp
          refine HN31.out.mono ?_
          rintro e w32 ⟨A32, c32, bs, s31, rfl, hA32, hfar32, hnil32, hS32, hgr32, hstep, hlt32, hcap32⟩
          have H31 := Lib.hid (show StepG (takeR kk) s30 bs s31 from hstep)
          have hz32 := hgr32.size
          have hg32 := (hgr32.block (w.heap.size + 1 + 1) (by omega) (by intro he; injection he with he; omega)).trans HG31.out
          have c23b := cell_of_row _ _ 23 _ _ (0, 0) hg32
          simp only [List.getElem?_toArray, List.getElem?_cons_succ, List.getElem?_cons_zero] at c23b
          have HG32 := Lib.hid hg32
          have HGR32 := Lib.hid hgr32
          have HS32 := Lib.hid hS32
          clear hstep hgr32 hg32 HN31 hS32 HG31
          go_wp2_with fail
          refine hKK.out _ _ trivial (fun _ => ?_)
          clear hKK KK
          (try simp only [List.getElem_toArray, List.getElem_cons_succ, List.getElem_cons_zero, Act.put, List.setIfInBounds_toArray, List.set_cons_zero, List.set_cons_succ])
          refine wpAnyH_ready (rs := [6]) (by kernel_rfl) (by simp) ?_; refine AllReadyH.cons rfl (fun KK hKK => ?_) AllReadyH.nil
          have hsz32 : w3.heap.size ≤ w32.heap.size := by omega
          refine step_app_bytes rfl (.tmp 81) (.tmp 85) rfl w3.heap.size (v := .slice none 0 0) (n := 0) (xs := []) rfl (World.ownsRow_nil _ _ _ _ : w32.ownsRow w3.heap.size 5 1 (.slice none 0 0) 0 (bys [])) rfl (news := bs) rfl hA32 hnil32 (by omega) hsz32 ?_
          intro A33 c33 w33 ho33 hb33 hg33 hcap33
          have hgq33 := hg33.1
          clear hg33
          rw [List.nil_append, Nat.zero_add] at ho33
          rw [Nat.zero_add]
          have hg33G := (hb33.block (w.heap.size + 1 + 1) (by omega)).trans HG32.out
          have c23 := cell_of_row _ _ 23 _ _ (0, 0) hg33G
          have f23 := frozen_of_row _ _ 23 _ _ hg33G
          simp only [List.getElem?_toArray, List.getElem?_cons_succ, List.getElem?_cons_zero] at c23
          clear hA32 hfar32 hnil32 c23a c23b c23D hcap33 hcap32
          refine hKK.out _ _ trivial (fun _ => ?_)
          clear hKK KK
          (try simp only [List.getElem_toArray, List.getElem_cons_succ, List.getElem_cons_zero, Act.put, List.setIfInBounds_toArray, List.set_cons_zero, List.set_cons_succ])
          refine wpAnyH_take (i := 7) (v := ?_) rfl (by kernel_rfl) (by kernel_rfl) (by kernel_rfl) (fun _ _ _ h => h) (Or.inl ⟨by rfl, ?_⟩) (by assumption) ?_; rotate_left; (intro w hSw; (try dsimp only at hSw); go_simp; (first | done | (with_reducible rfl))); (try simp only [List.getElem_toArray, List.getElem_cons_succ, List.getElem_cons_zero, Act.put, List.setIfInBounds_toArray, List.set_cons_zero, List.set_cons_succ])
          refine wpAnyH_ready (rs := [8]) (by kernel_rfl) (by simp) ?_; refine AllReadyH.cons rfl (fun KK hKK => ?_) AllReadyH.nil
          go_simp
          go_wp2_with fail
          refine hKK.out _ _ trivial (fun _ => ?_)
          clear hKK KK
          (try simp only [List.getElem_toArray, List.getElem_cons_succ, List.getElem_cons_zero, Act.put, List.setIfInBounds_toArray, List.set_cons_zero, List.set_cons_succ])
          refine wpAnyH_done (by kernel_rfl) ?_ _
          have hset34 := heap_setCell_same w33 (w.heap.size + 1 + 1) 23 _ _ (.slice A33 bs.length c33) hg33G
          have hg34 : (w33.setCell ⟨w.heap.size + 1 + 1, 23, none⟩ (.slice A33 bs.length c33)).heap[w.heap.size + 1 + 1]? = some (.cells #[.int .i64 h11m.kind, .int .i64 h11m.frm, .int .i64 h11m.to, .int .i64 h11m.ballot, .int .i64 h11m.slot, .int .i64 h11m.blob, .int .i64 h11m.index, .int .i64 h11m.epoch, .int .i64 h11m.id, .bool h11m.ok, .int .i64 h11m.cmd.id, .int .i64 h11m.cmd.kind, .string h11m.cmd.key, .int .i64 h11m.cmd.blob, .int .i64 h11m.cmd.other, .int .i64 h11m.cmd.index, .int .i64 h11m.cmd.node, .int .i64 h11m.cmd.size, .int .u32 h11m.cmd.sum, .int .i64 h11m.cmd.k, .int .i64 h11m.cmd.m, .slice P cn.length e', .slice X V.length ev, .slice A33 bs.length c33] 40 (0, 0)) := hset34
          have hr33 := (hb33.block w.heap.size (by omega)).trans ((HGR32.out.block w.heap.size (by omega) (by intro he; injection he with he; omega)).trans ((HGR31.out.block w.heap.size (by omega) (by intro he; injection he with he; omega)).trans HRD.out))
          have hr34 := (heap_setCell_other w33 ⟨w.heap.size + 1 + 1, 23, none⟩ w.heap.size (.slice A33 bs.length c33) (by simp; omega)).trans hr33
          have hS34 := (HS32.out.belowB hb33 (by omega)).other (o := 23) (v := .slice A33 bs.length c33) (by omega : (w.heap.size + 1) < (w.heap.size + 1 + 1))
          have hT34 := (((HTD.out.trans (Two.of1 HGR31.out)).trans (Two.of1 HGR32.out)).below hb33).trans (Two.of2 (p := (w.heap.size + 1)) (grown_set w33 (w.heap.size + 1 + 1) 23 (.slice A33 bs.length c33)))
          have fk : ∀ T sz v n xs, WD.ownsRow w3.heap.size T sz v n xs → T ≠ 5 → (w33.setCell ⟨w.heap.size + 1 + 1, 23, none⟩ (.slice A33 bs.length c33)).ownsRow w3.heap.size T sz v n xs := fun T sz v n xs h hT =>
            ownsRow_setCell_below (own_app (own_keep (own_keep h HGR31.out (by omega)) HGR32.out (by omega)) hgq33) (show w.heap.size + 1 + 1 < w3.heap.size by omega) _
          have ho34 := ownsRow_setCell_below ho33 (show w.heap.size + 1 + 1 < w3.heap.size by omega) (.slice A33 bs.length c33) (a := ⟨w.heap.size + 1 + 1, 23, none⟩)
          have hMO : MgOwn (w33.setCell ⟨w.heap.size + 1 + 1, 23, none⟩ (.slice A33 bs.length c33)) w3.heap.size P e' X ev A33 c33 ⟨h11m, cn, V, bs⟩ :=
            ⟨fk _ _ _ _ _ HCD.out (by decide), hcl, ⟨us, fk _ _ _ _ _ HVD.out (by decide), VtsO.map (fun v n xs h => fk _ _ v n xs h (by decide)) _ _ HVOD.out⟩, hnn, ho34, by simp only; omega, by rw [show (⟨h11m, cn, V, bs⟩ : Mg).h.cmd = cc by show h11m.cmd = cc; rw [HH11.out]; rfl]; exact HSM.out⟩
          have HP : Hid (StepG partsM (some l) ([m1, m2, m3, m4, m5, m6, m7, m8, m9], okv, (cc, cn), V.length, V, kk, bs) s31) := by
            show StepG partsM _ _ _
            unfold partsM
            exact HNUM.out.then' (H11.out.then' (H12.out.then' (H13.out.then' (HV.out.then' (H30.out.then' H31.out)))))
          have hmk : Hid (mkM [m1, m2, m3, m4, m5, m6, m7, m8, m9] okv cc cn V bs = ⟨h11m, cn, V, bs⟩) := by show _ = _; rw [HH11.out, HH10.out]; rfl
          have hz34 : w3.heap.size ≤ (w33.setCell ⟨w.heap.size + 1 + 1, 23, none⟩ (.slice A33 bs.length c33)).heap.size := by simp; have := hb33.size; omega
          clear hset34 hr33 hg33G c23 f23 ho33 ho34 hb33 fk HGR31 HGR32 HVD HVOD HCD HGD HRD HTD HNUM H11 H12 H13 HV H30 H31 HH11 HH10 HG32 HS32
          generalize w33.setCell ⟨w.heap.size + 1 + 1, 23, none⟩ (.slice A33 bs.length c33) = w34 at *
          have hatM : At w34 (some ⟨w.heap.size + 1 + 1, 0, none⟩) [.int .i64 h11m.kind, .int .i64 h11m.frm, .int .i64 h11m.to, .int .i64 h11m.ballot, .int .i64 h11m.slot, .int .i64 h11m.blob, .int .i64 h11m.index, .int .i64 h11m.epoch, .int .i64 h11m.id, .bool h11m.ok, .int .i64 h11m.cmd.id, .int .i64 h11m.cmd.kind, .string h11m.cmd.key, .int .i64 h11m.cmd.blob, .int .i64 h11m.cmd.other, .int .i64 h11m.cmd.index, .int .i64 h11m.cmd.node, .int .i64 h11m.cmd.size, .int .u32 h11m.cmd.sum, .int .i64 h11m.cmd.k, .int .i64 h11m.cmd.m, .slice P cn.length e', .slice X V.length ev, .slice A33 bs.length c33] := at_cells hg34
          have HMM := Lib.hid (rmayMsg_calls (e := ev) hMO.at)
          simp only at HMM
          have HMO := Lib.hid hMO
          have HG34 := Lib.hid hg34
          have HB34 := Lib.hid (below_two HB3.out hT34 (by omega))
          clear hMO hg34 hT34
          obtain ⟨hfc, hff⟩ := hS34.flag
          cases s31 with
          | none =>
            have hon : Hid (oneM l = none) := oneM_none HP.out (.inl rfl)
            simp only [Option.isNone_none] at hfc
            clear hS34
            go_wp2_with (first
              | (refine wpList_put_at rfl 40 (.tmp 2) (.tmp 105) rfl w.heap.size 0 [.int .i64 zeroM.kind, .int .i64 zeroM.frm, .int .i64 zeroM.to, .int .i64 zeroM.ballot, .int .i64 zeroM.slot, .int .i64 zeroM.blob, .int .i64 zeroM.index, .int .i64 zeroM.epoch, .int .i64 zeroM.id, .bool zeroM.ok, .int .i64 zeroM.cmd.id, .int .i64 zeroM.cmd.kind, .string zeroM.cmd.key, .int .i64 zeroM.cmd.blob, .int .i64 zeroM.cmd.other, .int .i64 zeroM.cmd.index, .int .i64 zeroM.cmd.node, .int .i64 zeroM.cmd.size, .int .u32 zeroM.cmd.sum, .int .i64 zeroM.cmd.k, .int .i64 zeroM.cmd.m, .slice none 0 0, .slice none 0 0, .slice none 0 0] rfl rfl 40 _ #[.int .i64 zeroM.kind, .int .i64 zeroM.frm, .int .i64 zeroM.to, .int .i64 zeroM.ballot, .int .i64 zeroM.slot, .int .i64 zeroM.blob, .int .i64 zeroM.index, .int .i64 zeroM.epoch, .int .i64 zeroM.id, .bool zeroM.ok, .int .i64 zeroM.cmd.id, .int .i64 zeroM.cmd.kind, .string zeroM.cmd.key, .int .i64 zeroM.cmd.blob, .int .i64 zeroM.cmd.other, .int .i64 zeroM.cmd.index, .int .i64 zeroM.cmd.node, .int .i64 zeroM.cmd.size, .int .u32 zeroM.cmd.sum, .int .i64 zeroM.cmd.k, .int .i64 zeroM.cmd.m, .slice none 0 0, .slice none 0 0, .slice none 0 0] hr34 (by kernel_rfl) (by show (24 : Nat) ≤ 24; decide) (msg_one zeroM none none none 0 0 0 0 0 0) rfl ?_; intro w40 hgr40 hg40))
            refine bodyPost_ret (results_row_tmp rfl _ _ w.heap.size 40 #[.int .i64 zeroM.kind, .int .i64 zeroM.frm, .int .i64 zeroM.to, .int .i64 zeroM.ballot, .int .i64 zeroM.slot, .int .i64 zeroM.blob, .int .i64 zeroM.index, .int .i64 zeroM.epoch, .int .i64 zeroM.id, .bool zeroM.ok, .int .i64 zeroM.cmd.id, .int .i64 zeroM.cmd.kind, .string zeroM.cmd.key, .int .i64 zeroM.cmd.blob, .int .i64 zeroM.cmd.other, .int .i64 zeroM.cmd.index, .int .i64 zeroM.cmd.node, .int .i64 zeroM.cmd.size, .int .u32 zeroM.cmd.sum, .int .i64 zeroM.cmd.k, .int .i64 zeroM.cmd.m, .slice none 0 0, .slice none 0 0, .slice none 0 0] (0, 0) _ rfl hg40 Try.underlying40 rfl (by kernel_rfl)) rfl ?_
            exact ⟨none, 0, none, 0, none, 0, by rw [hon.out]; rfl, HB34.out.trans ⟨hgr40.os, hgr40.tape, hgr40.output, hgr40.size, fun k hk => hgr40.block k (by have := (HB34.out).size; omega) (by intro he; injection he with he; omega)⟩, by rw [hon.out]; exact mgown_zero _ _⟩
          | some rr =>
            simp only [Option.isNone_some] at hfc
            obtain ⟨A5, c5, hR5⟩ := hS34
            have hb0 := cell_of_row _ _ 0 _ _ (0, 0) hR5.hd
            simp only [List.getElem?_toArray, List.getElem?_cons_succ, List.getElem?_cons_zero] at hb0
            clear hR5
            cases rr with
            | cons y rr =>
              have hon : Hid (oneM l = none) := oneM_none HP.out (.inr (.inl ⟨y, rr, rfl⟩))
              simp only [List.length_cons] at hb0
              have hpos : (0 : Int) < ((rr.length + 1 : Nat) : Int) := by omega
              go_wp2_with (first
                | (refine wpList_put_at rfl 40 (.tmp 2) (.tmp 105) rfl w.heap.size 0 [.int .i64 zeroM.kind, .int .i64 zeroM.frm, .int .i64 zeroM.to, .int .i64 zeroM.ballot, .int .i64 zeroM.slot, .int .i64 zeroM.blob, .int .i64 zeroM.index, .int .i64 zeroM.epoch, .int .i64 zeroM.id, .bool zeroM.ok, .int .i64 zeroM.cmd.id, .int .i64 zeroM.cmd.kind, .string zeroM.cmd.key, .int .i64 zeroM.cmd.blob, .int .i64 zeroM.cmd.other, .int .i64 zeroM.cmd.index, .int .i64 zeroM.cmd.node, .int .i64 zeroM.cmd.size, .int .u32 zeroM.cmd.sum, .int .i64 zeroM.cmd.k, .int .i64 zeroM.cmd.m, .slice none 0 0, .slice none 0 0, .slice none 0 0] rfl rfl 40 _ #[.int .i64 zeroM.kind, .int .i64 zeroM.frm, .int .i64 zeroM.to, .int .i64 zeroM.ballot, .int .i64 zeroM.slot, .int .i64 zeroM.blob, .int .i64 zeroM.index, .int .i64 zeroM.epoch, .int .i64 zeroM.id, .bool zeroM.ok, .int .i64 zeroM.cmd.id, .int .i64 zeroM.cmd.kind, .string zeroM.cmd.key, .int .i64 zeroM.cmd.blob, .int .i64 zeroM.cmd.other, .int .i64 zeroM.cmd.index, .int .i64 zeroM.cmd.node, .int .i64 zeroM.cmd.size, .int .u32 zeroM.cmd.sum, .int .i64 zeroM.cmd.k, .int .i64 zeroM.cmd.m, .slice none 0 0, .slice none 0 0, .slice none 0 0] hr34 (by kernel_rfl) (by show (24 : Nat) ≤ 24; decide) (msg_one zeroM none none none 0 0 0 0 0 0) rfl ?_; intro w40 hgr40 hg40))
              refine bodyPost_ret (results_row_tmp rfl _ _ w.heap.size 40 #[.int .i64 zeroM.kind, .int .i64 zeroM.frm, .int .i64 zeroM.to, .int .i64 zeroM.ballot, .int .i64 zeroM.slot, .int .i64 zeroM.blob, .int .i64 zeroM.index, .int .i64 zeroM.epoch, .int .i64 zeroM.id, .bool zeroM.ok, .int .i64 zeroM.cmd.id, .int .i64 zeroM.cmd.kind, .string zeroM.cmd.key, .int .i64 zeroM.cmd.blob, .int .i64 zeroM.cmd.other, .int .i64 zeroM.cmd.index, .int .i64 zeroM.cmd.node, .int .i64 zeroM.cmd.size, .int .u32 zeroM.cmd.sum, .int .i64 zeroM.cmd.k, .int .i64 zeroM.cmd.m, .slice none 0 0, .slice none 0 0, .slice none 0 0] (0, 0) _ rfl hg40 Try.underlying40 rfl (by kernel_rfl)) rfl ?_
              exact ⟨none, 0, none, 0, none, 0, by rw [hon.out]; rfl, HB34.out.trans ⟨hgr40.os, hgr40.tape, hgr40.output, hgr40.size, fun k hk => hgr40.block k (by have := (HB34.out).size; omega) (by intro he; injection he with he; omega)⟩, by rw [hon.out]; exact mgown_zero _ _⟩
            | nil =>
              simp only [List.length_nil] at hb0
              go_wp2_with (refine load_atG (by rfl) 40 (.tmp 5) rfl rfl hatM Try.underlying40 rfl (by kernel_rfl) ?_)
              refine HMM.out.mono ?_
              rintro e w35 ⟨rfl, hb35⟩
              have hz35 := hb35.size
              have hr35 := (hb35.block w.heap.size (by omega)).trans hr34
              have hatN : At w35 (some ⟨w.heap.size + 1 + 1, 0, none⟩) [.int .i64 h11m.kind, .int .i64 h11m.frm, .int .i64 h11m.to, .int .i64 h11m.ballot, .int .i64 h11m.slot, .int .i64 h11m.blob, .int .i64 h11m.index, .int .i64 h11m.epoch, .int .i64 h11m.id, .bool h11m.ok, .int .i64 h11m.cmd.id, .int .i64 h11m.cmd.kind, .string h11m.cmd.key, .int .i64 h11m.cmd.blob, .int .i64 h11m.cmd.other, .int .i64 h11m.cmd.index, .int .i64 h11m.cmd.node, .int .i64 h11m.cmd.size, .int .u32 h11m.cmd.sum, .int .i64 h11m.cmd.k, .int .i64 h11m.cmd.m, .slice P cn.length e', .slice X V.length ev, .slice A33 bs.length c33] := at_cells ((hb35.block (w.heap.size + 1 + 1) (by omega)).trans HG34.out)
              have HB35 := Lib.hid (HB34.out.trans (hb35.mono (by omega)))
              have HMO35 := Lib.hid (HMO.out.map (fun T sz v n xs h => own_below h hb35))
              clear HMM hatM hb35 HB34 HMO HG34
              generalize hmay : mayM ⟨h11m, cn, V, bs⟩ = may at *
              have HMAY := Lib.hid hmay
              clear hmay
              cases may with
              | false =>
                have hon : Hid (oneM l = none) := oneM_none HP.out (.inr (.inr (by rw [hmk.out]; exact HMAY.out)))
                go_wp2_with (first
                  | (refine wpList_put_at rfl 40 (.tmp 2) (.tmp 105) rfl w.heap.size 0 [.int .i64 zeroM.kind, .int .i64 zeroM.frm, .int .i64 zeroM.to, .int .i64 zeroM.ballot, .int .i64 zeroM.slot, .int .i64 zeroM.blob, .int .i64 zeroM.index, .int .i64 zeroM.epoch, .int .i64 zeroM.id, .bool zeroM.ok, .int .i64 zeroM.cmd.id, .int .i64 zeroM.cmd.kind, .string zeroM.cmd.key, .int .i64 zeroM.cmd.blob, .int .i64 zeroM.cmd.other, .int .i64 zeroM.cmd.index, .int .i64 zeroM.cmd.node, .int .i64 zeroM.cmd.size, .int .u32 zeroM.cmd.sum, .int .i64 zeroM.cmd.k, .int .i64 zeroM.cmd.m, .slice none 0 0, .slice none 0 0, .slice none 0 0] rfl rfl 40 _ #[.int .i64 zeroM.kind, .int .i64 zeroM.frm, .int .i64 zeroM.to, .int .i64 zeroM.ballot, .int .i64 zeroM.slot, .int .i64 zeroM.blob, .int .i64 zeroM.index, .int .i64 zeroM.epoch, .int .i64 zeroM.id, .bool zeroM.ok, .int .i64 zeroM.cmd.id, .int .i64 zeroM.cmd.kind, .string zeroM.cmd.key, .int .i64 zeroM.cmd.blob, .int .i64 zeroM.cmd.other, .int .i64 zeroM.cmd.index, .int .i64 zeroM.cmd.node, .int .i64 zeroM.cmd.size, .int .u32 zeroM.cmd.sum, .int .i64 zeroM.cmd.k, .int .i64 zeroM.cmd.m, .slice none 0 0, .slice none 0 0, .slice none 0 0] hr35 (by kernel_rfl) (by show (24 : Nat) ≤ 24; decide) (msg_one zeroM none none none 0 0 0 0 0 0) rfl ?_; intro w40 hgr40 hg40))
                refine bodyPost_ret (results_row_tmp rfl _ _ w.heap.size 40 #[.int .i64 zeroM.kind, .int .i64 zeroM.frm, .int .i64 zeroM.to, .int .i64 zeroM.ballot, .int .i64 zeroM.slot, .int .i64 zeroM.blob, .int .i64 zeroM.index, .int .i64 zeroM.epoch, .int .i64 zeroM.id, .bool zeroM.ok, .int .i64 zeroM.cmd.id, .int .i64 zeroM.cmd.kind, .string zeroM.cmd.key, .int .i64 zeroM.cmd.blob, .int .i64 zeroM.cmd.other, .int .i64 zeroM.cmd.index, .int .i64 zeroM.cmd.node, .int .i64 zeroM.cmd.size, .int .u32 zeroM.cmd.sum, .int .i64 zeroM.cmd.k, .int .i64 zeroM.cmd.m, .slice none 0 0, .slice none 0 0, .slice none 0 0] (0, 0) _ rfl hg40 Try.underlying40 rfl (by kernel_rfl)) rfl ?_
                exact ⟨none, 0, none, 0, none, 0, by rw [hon.out]; rfl, HB35.out.trans ⟨hgr40.os, hgr40.tape, hgr40.output, hgr40.size, fun k hk => hgr40.block k (by have := (HB35.out).size; omega) (by intro he; injection he with he; omega)⟩, by rw [hon.out]; exact mgown_zero _ _⟩
              | true =>
                have hon : Hid (oneM l = some ⟨h11m, cn, V, bs⟩) := by
                  have := oneM_good HP.out (by rw [hmk.out]; exact HMAY.out)
                  rw [hmk.out] at this
                  exact this
                go_wp2_with (first
                  | (refine wpList_load_at rfl 40 (.tmp 5) rfl rfl hatN Try.underlying40 rfl (by kernel_rfl) ?_)
                  | (refine wpList_put_at rfl 40 (.tmp 2) (.tmp 106) rfl w.heap.size 0 [.int .i64 h11m.kind, .int .i64 h11m.frm, .int .i64 h11m.to, .int .i64 h11m.ballot, .int .i64 h11m.slot, .int .i64 h11m.blob, .int .i64 h11m.index, .int .i64 h11m.epoch, .int .i64 h11m.id, .bool h11m.ok, .int .i64 h11m.cmd.id, .int .i64 h11m.cmd.kind, .string h11m.cmd.key, .int .i64 h11m.cmd.blob, .int .i64 h11m.cmd.other, .int .i64 h11m.cmd.index, .int .i64 h11m.cmd.node, .int .i64 h11m.cmd.size, .int .u32 h11m.cmd.sum, .int .i64 h11m.cmd.k, .int .i64 h11m.cmd.m, .slice P cn.length e', .slice X V.length ev, .slice A33 bs.length c33] rfl rfl 40 _ #[.int .i64 h11m.kind, .int .i64 h11m.frm, .int .i64 h11m.to, .int .i64 h11m.ballot, .int .i64 h11m.slot, .int .i64 h11m.blob, .int .i64 h11m.index, .int .i64 h11m.epoch, .int .i64 h11m.id, .bool h11m.ok, .int .i64 h11m.cmd.id, .int .i64 h11m.cmd.kind, .string h11m.cmd.key, .int .i64 h11m.cmd.blob, .int .i64 h11m.cmd.other, .int .i64 h11m.cmd.index, .int .i64 h11m.cmd.node, .int .i64 h11m.cmd.size, .int .u32 h11m.cmd.sum, .int .i64 h11m.cmd.k, .int .i64 h11m.cmd.m, .slice P cn.length e', .slice X V.length ev, .slice A33 bs.length c33] hr35 (by kernel_rfl) (by show (24 : Nat) ≤ 24; decide) (msg_one h11m P X A33 cn.length e' V.length ev bs.length c33) rfl ?_; intro w40 hgr40 hg40))
                refine bodyPost_ret (results_row_tmp rfl _ _ w.heap.size 40 #[.int .i64 h11m.kind, .int .i64 h11m.frm, .int .i64 h11m.to, .int .i64 h11m.ballot, .int .i64 h11m.slot, .int .i64 h11m.blob, .int .i64 h11m.index, .int .i64 h11m.epoch, .int .i64 h11m.id, .bool h11m.ok, .int .i64 h11m.cmd.id, .int .i64 h11m.cmd.kind, .string h11m.cmd.key, .int .i64 h11m.cmd.blob, .int .i64 h11m.cmd.other, .int .i64 h11m.cmd.index, .int .i64 h11m.cmd.node, .int .i64 h11m.cmd.size, .int .u32 h11m.cmd.sum, .int .i64 h11m.cmd.k, .int .i64 h11m.cmd.m, .slice P cn.length e', .slice X V.length ev, .slice A33 bs.length c33] (0, 0) _ rfl hg40 Try.underlying40 rfl (by kernel_rfl)) rfl ?_
                exact ⟨P, e', X, ev, A33, c33, by rw [hon.out]; rfl, HB35.out.trans ⟨hgr40.os, hgr40.tape, hgr40.output, hgr40.size, fun k hk => hgr40.block k (by have := HB35.out.size; omega) (by intro he; injection he with he; omega)⟩, by rw [hon.out]; exact (HMO35.out.map (fun T sz v n xs h => own_keep h hgr40 (by omega))).lower (by omega)⟩
        · go_simp
          refine HN30.out.mono ?_
          rintro e w31 ⟨kk, s30, rfl, hS31, hgr31, hstep, hkk⟩
          have H30 := Lib.hid (show StepG (numR 2000) sl kk s30 from hstep)
          have hz31 := hgr31.size
          have hg31 := (hgr31.block (w.heap.size + 1 + 1) (by omega) (by intro he; injection he with he; omega)).trans HGD.out
          have c23a := cell_of_row _ _ 23 _ _ (0, 0) hg31
          simp only [List.getElem?_toArray, List.getElem?_cons_succ, List.getElem?_cons_zero] at c23a
          have HG31 := Lib.hid hg31
          have HGR31 := Lib.hid hgr31
          have HN31 := Lib.hid (rtakeS_calls hS31 kk)
          clear hstep hgr31 hg31 HN30 hS31
          go_wp2_with fail
          refine hKK.out _ _ trivial (fun _ => ?_)
          clear hKK KK
          (try simp only [List.getElem_toArray, List.getElem_cons_succ, List.getElem_cons_zero, Act.put, List.setIfInBounds_toArray, List.set_cons_zero, List.set_cons_succ])
          refine wpAnyH_ready (rs := [1, 5]) (by kernel_rfl) (by simp) ?_
          refine AllReadyH.cons rfl (fun KK hKK => ?_) (AllReadyH.cons rfl (fun KK hKK => ?_) AllReadyH.nil)
          · skip
            go_simp
            go_wp2_with fail
            refine hKK.out _ _ trivial (fun _ => ?_)
            clear hKK KK
            (try simp only [List.getElem_toArray, List.getElem_cons_succ, List.getElem_cons_zero, Act.put, List.setIfInBounds_toArray, List.set_cons_zero, List.set_cons_succ])
            refine wpAnyH_ready (rs := [5]) (by kernel_rfl) (by simp) ?_; refine AllReadyH.cons rfl (fun KK hKK => ?_) AllReadyH.nil
            go_simp
            refine HN31.out.mono ?_
            rintro e w32 ⟨A32, c32, bs, s31, rfl, hA32, hfar32, hnil32, hS32, hgr32, hstep, hlt32, hcap32⟩
            have H31 := Lib.hid (show StepG (takeR kk) s30 bs s31 from hstep)
            have hz32 := hgr32.size
            have hg32 := (hgr32.block (w.heap.size + 1 + 1) (by omega) (by intro he; injection he with he; omega)).trans HG31.out
            have c23b := cell_of_row _ _ 23 _ _ (0, 0) hg32
            simp only [List.getElem?_toArray, List.getElem?_cons_succ, List.getElem?_cons_zero] at c23b
            have HG32 := Lib.hid hg32
            have HGR32 := Lib.hid hgr32
            have HS32 := Lib.hid hS32
            clear hstep hgr32 hg32 HN31 hS32 HG31
            go_wp2_with fail
            refine hKK.out _ _ trivial (fun _ => ?_)
            clear hKK KK
            (try simp only [List.getElem_toArray, List.getElem_cons_succ, List.getElem_cons_zero, Act.put, List.setIfInBounds_toArray, List.set_cons_zero, List.set_cons_succ])
            refine wpAnyH_ready (rs := [6]) (by kernel_rfl) (by simp) ?_; refine AllReadyH.cons rfl (fun KK hKK => ?_) AllReadyH.nil
            have hsz32 : w3.heap.size ≤ w32.heap.size := by omega
            refine step_app_bytes rfl (.tmp 81) (.tmp 85) rfl w3.heap.size (v := .slice none 0 0) (n := 0) (xs := []) rfl (World.ownsRow_nil _ _ _ _ : w32.ownsRow w3.heap.size 5 1 (.slice none 0 0) 0 (bys [])) rfl (news := bs) rfl hA32 hnil32 (by omega) hsz32 ?_
            intro A33 c33 w33 ho33 hb33 hg33 hcap33
            have hgq33 := hg33.1
            clear hg33
            rw [List.nil_append, Nat.zero_add] at ho33
            rw [Nat.zero_add]
            have hg33G := (hb33.block (w.heap.size + 1 + 1) (by omega)).trans HG32.out
            have c23 := cell_of_row _ _ 23 _ _ (0, 0) hg33G
            have f23 := frozen_of_row _ _ 23 _ _ hg33G
            simp only [List.getElem?_toArray, List.getElem?_cons_succ, List.getElem?_cons_zero] at c23
            clear hA32 hfar32 hnil32 c23a c23b c23D hcap33 hcap32
            refine hKK.out _ _ trivial (fun _ => ?_)
            clear hKK KK
            (try simp only [List.getElem_toArray, List.getElem_cons_succ, List.getElem_cons_zero, Act.put, List.setIfInBounds_toArray, List.set_cons_zero, List.set_cons_succ])
            refine wpAnyH_take (i := 7) (v := ?_) rfl (by kernel_rfl) (by kernel_rfl) (by kernel_rfl) (fun _ _ _ h => h) (Or.inl ⟨by rfl, ?_⟩) (by assumption) ?_; rotate_left; (intro w hSw; (try dsimp only at hSw); go_simp; (first | done | (with_reducible rfl))); (try simp only [List.getElem_toArray, List.getElem_cons_succ, List.getElem_cons_zero, Act.put, List.setIfInBounds_toArray, List.set_cons_zero, List.set_cons_succ])
            refine wpAnyH_ready (rs := [8]) (by kernel_rfl) (by simp) ?_; refine AllReadyH.cons rfl (fun KK hKK => ?_) AllReadyH.nil
            go_simp
            go_wp2_with fail
            refine hKK.out _ _ trivial (fun _ => ?_)
            clear hKK KK
            (try simp only [List.getElem_toArray, List.getElem_cons_succ, List.getElem_cons_zero, Act.put, List.setIfInBounds_toArray, List.set_cons_zero, List.set_cons_succ])
            refine wpAnyH_done (by kernel_rfl) ?_ _
            have hset34 := heap_setCell_same w33 (w.heap.size + 1 + 1) 23 _ _ (.slice A33 bs.length c33) hg33G
            have hg34 : (w33.setCell ⟨w.heap.size + 1 + 1, 23, none⟩ (.slice A33 bs.length c33)).heap[w.heap.size + 1 + 1]? = some (.cells #[.int .i64 h11m.kind, .int .i64 h11m.frm, .int .i64 h11m.to, .int .i64 h11m.ballot, .int .i64 h11m.slot, .int .i64 h11m.blob, .int .i64 h11m.index, .int .i64 h11m.epoch, .int .i64 h11m.id, .bool h11m.ok, .int .i64 h11m.cmd.id, .int .i64 h11m.cmd.kind, .string h11m.cmd.key, .int .i64 h11m.cmd.blob, .int .i64 h11m.cmd.other, .int .i64 h11m.cmd.index, .int .i64 h11m.cmd.node, .int .i64 h11m.cmd.size, .int .u32 h11m.cmd.sum, .int .i64 h11m.cmd.k, .int .i64 h11m.cmd.m, .slice P cn.length e', .slice X V.length ev, .slice A33 bs.length c33] 40 (0, 0)) := hset34
            have hr33 := (hb33.block w.heap.size (by omega)).trans ((HGR32.out.block w.heap.size (by omega) (by intro he; injection he with he; omega)).trans ((HGR31.out.block w.heap.size (by omega) (by intro he; injection he with he; omega)).trans HRD.out))
            have hr34 := (heap_setCell_other w33 ⟨w.heap.size + 1 + 1, 23, none⟩ w.heap.size (.slice A33 bs.length c33) (by simp; omega)).trans hr33
            have hS34 := (HS32.out.belowB hb33 (by omega)).other (o := 23) (v := .slice A33 bs.length c33) (by omega : (w.heap.size + 1) < (w.heap.size + 1 + 1))
            have hT34 := (((HTD.out.trans (Two.of1 HGR31.out)).trans (Two.of1 HGR32.out)).below hb33).trans (Two.of2 (p := (w.heap.size + 1)) (grown_set w33 (w.heap.size + 1 + 1) 23 (.slice A33 bs.length c33)))
            have fk : ∀ T sz v n xs, WD.ownsRow w3.heap.size T sz v n xs → T ≠ 5 → (w33.setCell ⟨w.heap.size + 1 + 1, 23, none⟩ (.slice A33 bs.length c33)).ownsRow w3.heap.size T sz v n xs := fun T sz v n xs h hT =>
              ownsRow_setCell_below (own_app (own_keep (own_keep h HGR31.out (by omega)) HGR32.out (by omega)) hgq33) (show w.heap.size + 1 + 1 < w3.heap.size by omega) _
            have ho34 := ownsRow_setCell_below ho33 (show w.heap.size + 1 + 1 < w3.heap.size by omega) (.slice A33 bs.length c33) (a := ⟨w.heap.size + 1 + 1, 23, none⟩)
            have hMO : MgOwn (w33.setCell ⟨w.heap.size + 1 + 1, 23, none⟩ (.slice A33 bs.length c33)) w3.heap.size P e' X ev A33 c33 ⟨h11m, cn, V, bs⟩ :=
              ⟨fk _ _ _ _ _ HCD.out (by decide), hcl, ⟨us, fk _ _ _ _ _ HVD.out (by decide), VtsO.map (fun v n xs h => fk _ _ v n xs h (by decide)) _ _ HVOD.out⟩, hnn, ho34, by simp only; omega, by rw [show (⟨h11m, cn, V, bs⟩ : Mg).h.cmd = cc by show h11m.cmd = cc; rw [HH11.out]; rfl]; exact HSM.out⟩
            have HP : Hid (StepG partsM (some l) ([m1, m2, m3, m4, m5, m6, m7, m8, m9], okv, (cc, cn), V.length, V, kk, bs) s31) := by
              show StepG partsM _ _ _
              unfold partsM
              exact HNUM.out.then' (H11.out.then' (H12.out.then' (H13.out.then' (HV.out.then' (H30.out.then' H31.out)))))
            have hmk : Hid (mkM [m1, m2, m3, m4, m5, m6, m7, m8, m9] okv cc cn V bs = ⟨h11m, cn, V, bs⟩) := by show _ = _; rw [HH11.out, HH10.out]; rfl
            have hz34 : w3.heap.size ≤ (w33.setCell ⟨w.heap.size + 1 + 1, 23, none⟩ (.slice A33 bs.length c33)).heap.size := by simp; have := hb33.size; omega
            clear hset34 hr33 hg33G c23 f23 ho33 ho34 hb33 fk HGR31 HGR32 HVD HVOD HCD HGD HRD HTD HNUM H11 H12 H13 HV H30 H31 HH11 HH10 HG32 HS32
            generalize w33.setCell ⟨w.heap.size + 1 + 1, 23, none⟩ (.slice A33 bs.length c33) = w34 at *
            have hatM : At w34 (some ⟨w.heap.size + 1 + 1, 0, none⟩) [.int .i64 h11m.kind, .int .i64 h11m.frm, .int .i64 h11m.to, .int .i64 h11m.ballot, .int .i64 h11m.slot, .int .i64 h11m.blob, .int .i64 h11m.index, .int .i64 h11m.epoch, .int .i64 h11m.id, .bool h11m.ok, .int .i64 h11m.cmd.id, .int .i64 h11m.cmd.kind, .string h11m.cmd.key, .int .i64 h11m.cmd.blob, .int .i64 h11m.cmd.other, .int .i64 h11m.cmd.index, .int .i64 h11m.cmd.node, .int .i64 h11m.cmd.size, .int .u32 h11m.cmd.sum, .int .i64 h11m.cmd.k, .int .i64 h11m.cmd.m, .slice P cn.length e', .slice X V.length ev, .slice A33 bs.length c33] := at_cells hg34
            have HMM := Lib.hid (rmayMsg_calls (e := ev) hMO.at)
            simp only at HMM
            have HMO := Lib.hid hMO
            have HG34 := Lib.hid hg34
            have HB34 := Lib.hid (below_two HB3.out hT34 (by omega))
            clear hMO hg34 hT34
            obtain ⟨hfc, hff⟩ := hS34.flag
            cases s31 with
            | none =>
              have hon : Hid (oneM l = none) := oneM_none HP.out (.inl rfl)
              simp only [Option.isNone_none] at hfc
              clear hS34
              go_wp2_with (first
                | (refine wpList_put_at rfl 40 (.tmp 2) (.tmp 105) rfl w.heap.size 0 [.int .i64 zeroM.kind, .int .i64 zeroM.frm, .int .i64 zeroM.to, .int .i64 zeroM.ballot, .int .i64 zeroM.slot, .int .i64 zeroM.blob, .int .i64 zeroM.index, .int .i64 zeroM.epoch, .int .i64 zeroM.id, .bool zeroM.ok, .int .i64 zeroM.cmd.id, .int .i64 zeroM.cmd.kind, .string zeroM.cmd.key, .int .i64 zeroM.cmd.blob, .int .i64 zeroM.cmd.other, .int .i64 zeroM.cmd.index, .int .i64 zeroM.cmd.node, .int .i64 zeroM.cmd.size, .int .u32 zeroM.cmd.sum, .int .i64 zeroM.cmd.k, .int .i64 zeroM.cmd.m, .slice none 0 0, .slice none 0 0, .slice none 0 0] rfl rfl 40 _ #[.int .i64 zeroM.kind, .int .i64 zeroM.frm, .int .i64 zeroM.to, .int .i64 zeroM.ballot, .int .i64 zeroM.slot, .int .i64 zeroM.blob, .int .i64 zeroM.index, .int .i64 zeroM.epoch, .int .i64 zeroM.id, .bool zeroM.ok, .int .i64 zeroM.cmd.id, .int .i64 zeroM.cmd.kind, .string zeroM.cmd.key, .int .i64 zeroM.cmd.blob, .int .i64 zeroM.cmd.other, .int .i64 zeroM.cmd.index, .int .i64 zeroM.cmd.node, .int .i64 zeroM.cmd.size, .int .u32 zeroM.cmd.sum, .int .i64 zeroM.cmd.k, .int .i64 zeroM.cmd.m, .slice none 0 0, .slice none 0 0, .slice none 0 0] hr34 (by kernel_rfl) (by show (24 : Nat) ≤ 24; decide) (msg_one zeroM none none none 0 0 0 0 0 0) rfl ?_; intro w40 hgr40 hg40))
              refine bodyPost_ret (results_row_tmp rfl _ _ w.heap.size 40 #[.int .i64 zeroM.kind, .int .i64 zeroM.frm, .int .i64 zeroM.to, .int .i64 zeroM.ballot, .int .i64 zeroM.slot, .int .i64 zeroM.blob, .int .i64 zeroM.index, .int .i64 zeroM.epoch, .int .i64 zeroM.id, .bool zeroM.ok, .int .i64 zeroM.cmd.id, .int .i64 zeroM.cmd.kind, .string zeroM.cmd.key, .int .i64 zeroM.cmd.blob, .int .i64 zeroM.cmd.other, .int .i64 zeroM.cmd.index, .int .i64 zeroM.cmd.node, .int .i64 zeroM.cmd.size, .int .u32 zeroM.cmd.sum, .int .i64 zeroM.cmd.k, .int .i64 zeroM.cmd.m, .slice none 0 0, .slice none 0 0, .slice none 0 0] (0, 0) _ rfl hg40 Try.underlying40 rfl (by kernel_rfl)) rfl ?_
              exact ⟨none, 0, none, 0, none, 0, by rw [hon.out]; rfl, HB34.out.trans ⟨hgr40.os, hgr40.tape, hgr40.output, hgr40.size, fun k hk => hgr40.block k (by have := (HB34.out).size; omega) (by intro he; injection he with he; omega)⟩, by rw [hon.out]; exact mgown_zero _ _⟩
            | some rr =>
              simp only [Option.isNone_some] at hfc
              obtain ⟨A5, c5, hR5⟩ := hS34
              have hb0 := cell_of_row _ _ 0 _ _ (0, 0) hR5.hd
              simp only [List.getElem?_toArray, List.getElem?_cons_succ, List.getElem?_cons_zero] at hb0
              clear hR5
              cases rr with
              | cons y rr =>
                have hon : Hid (oneM l = none) := oneM_none HP.out (.inr (.inl ⟨y, rr, rfl⟩))
                simp only [List.length_cons] at hb0
                have hpos : (0 : Int) < ((rr.length + 1 : Nat) : Int) := by omega
                go_wp2_with (first
                  | (refine wpList_put_at rfl 40 (.tmp 2) (.tmp 105) rfl w.heap.size 0 [.int .i64 zeroM.kind, .int .i64 zeroM.frm, .int .i64 zeroM.to, .int .i64 zeroM.ballot, .int .i64 zeroM.slot, .int .i64 zeroM.blob, .int .i64 zeroM.index, .int .i64 zeroM.epoch, .int .i64 zeroM.id, .bool zeroM.ok, .int .i64 zeroM.cmd.id, .int .i64 zeroM.cmd.kind, .string zeroM.cmd.key, .int .i64 zeroM.cmd.blob, .int .i64 zeroM.cmd.other, .int .i64 zeroM.cmd.index, .int .i64 zeroM.cmd.node, .int .i64 zeroM.cmd.size, .int .u32 zeroM.cmd.sum, .int .i64 zeroM.cmd.k, .int .i64 zeroM.cmd.m, .slice none 0 0, .slice none 0 0, .slice none 0 0] rfl rfl 40 _ #[.int .i64 zeroM.kind, .int .i64 zeroM.frm, .int .i64 zeroM.to, .int .i64 zeroM.ballot, .int .i64 zeroM.slot, .int .i64 zeroM.blob, .int .i64 zeroM.index, .int .i64 zeroM.epoch, .int .i64 zeroM.id, .bool zeroM.ok, .int .i64 zeroM.cmd.id, .int .i64 zeroM.cmd.kind, .string zeroM.cmd.key, .int .i64 zeroM.cmd.blob, .int .i64 zeroM.cmd.other, .int .i64 zeroM.cmd.index, .int .i64 zeroM.cmd.node, .int .i64 zeroM.cmd.size, .int .u32 zeroM.cmd.sum, .int .i64 zeroM.cmd.k, .int .i64 zeroM.cmd.m, .slice none 0 0, .slice none 0 0, .slice none 0 0] hr34 (by kernel_rfl) (by show (24 : Nat) ≤ 24; decide) (msg_one zeroM none none none 0 0 0 0 0 0) rfl ?_; intro w40 hgr40 hg40))
                refine bodyPost_ret (results_row_tmp rfl _ _ w.heap.size 40 #[.int .i64 zeroM.kind, .int .i64 zeroM.frm, .int .i64 zeroM.to, .int .i64 zeroM.ballot, .int .i64 zeroM.slot, .int .i64 zeroM.blob, .int .i64 zeroM.index, .int .i64 zeroM.epoch, .int .i64 zeroM.id, .bool zeroM.ok, .int .i64 zeroM.cmd.id, .int .i64 zeroM.cmd.kind, .string zeroM.cmd.key, .int .i64 zeroM.cmd.blob, .int .i64 zeroM.cmd.other, .int .i64 zeroM.cmd.index, .int .i64 zeroM.cmd.node, .int .i64 zeroM.cmd.size, .int .u32 zeroM.cmd.sum, .int .i64 zeroM.cmd.k, .int .i64 zeroM.cmd.m, .slice none 0 0, .slice none 0 0, .slice none 0 0] (0, 0) _ rfl hg40 Try.underlying40 rfl (by kernel_rfl)) rfl ?_
                exact ⟨none, 0, none, 0, none, 0, by rw [hon.out]; rfl, HB34.out.trans ⟨hgr40.os, hgr40.tape, hgr40.output, hgr40.size, fun k hk => hgr40.block k (by have := (HB34.out).size; omega) (by intro he; injection he with he; omega)⟩, by rw [hon.out]; exact mgown_zero _ _⟩
              | nil =>
                simp only [List.length_nil] at hb0
                go_wp2_with (refine load_atG (by rfl) 40 (.tmp 5) rfl rfl hatM Try.underlying40 rfl (by kernel_rfl) ?_)
                refine HMM.out.mono ?_
                rintro e w35 ⟨rfl, hb35⟩
                have hz35 := hb35.size
                have hr35 := (hb35.block w.heap.size (by omega)).trans hr34
                have hatN : At w35 (some ⟨w.heap.size + 1 + 1, 0, none⟩) [.int .i64 h11m.kind, .int .i64 h11m.frm, .int .i64 h11m.to, .int .i64 h11m.ballot, .int .i64 h11m.slot, .int .i64 h11m.blob, .int .i64 h11m.index, .int .i64 h11m.epoch, .int .i64 h11m.id, .bool h11m.ok, .int .i64 h11m.cmd.id, .int .i64 h11m.cmd.kind, .string h11m.cmd.key, .int .i64 h11m.cmd.blob, .int .i64 h11m.cmd.other, .int .i64 h11m.cmd.index, .int .i64 h11m.cmd.node, .int .i64 h11m.cmd.size, .int .u32 h11m.cmd.sum, .int .i64 h11m.cmd.k, .int .i64 h11m.cmd.m, .slice P cn.length e', .slice X V.length ev, .slice A33 bs.length c33] := at_cells ((hb35.block (w.heap.size + 1 + 1) (by omega)).trans HG34.out)
                have HB35 := Lib.hid (HB34.out.trans (hb35.mono (by omega)))
                have HMO35 := Lib.hid (HMO.out.map (fun T sz v n xs h => own_below h hb35))
                clear HMM hatM hb35 HB34 HMO HG34
                generalize hmay : mayM ⟨h11m, cn, V, bs⟩ = may at *
                have HMAY := Lib.hid hmay
                clear hmay
                cases may with
                | false =>
                  have hon : Hid (oneM l = none) := oneM_none HP.out (.inr (.inr (by rw [hmk.out]; exact HMAY.out)))
                  go_wp2_with (first
                    | (refine wpList_put_at rfl 40 (.tmp 2) (.tmp 105) rfl w.heap.size 0 [.int .i64 zeroM.kind, .int .i64 zeroM.frm, .int .i64 zeroM.to, .int .i64 zeroM.ballot, .int .i64 zeroM.slot, .int .i64 zeroM.blob, .int .i64 zeroM.index, .int .i64 zeroM.epoch, .int .i64 zeroM.id, .bool zeroM.ok, .int .i64 zeroM.cmd.id, .int .i64 zeroM.cmd.kind, .string zeroM.cmd.key, .int .i64 zeroM.cmd.blob, .int .i64 zeroM.cmd.other, .int .i64 zeroM.cmd.index, .int .i64 zeroM.cmd.node, .int .i64 zeroM.cmd.size, .int .u32 zeroM.cmd.sum, .int .i64 zeroM.cmd.k, .int .i64 zeroM.cmd.m, .slice none 0 0, .slice none 0 0, .slice none 0 0] rfl rfl 40 _ #[.int .i64 zeroM.kind, .int .i64 zeroM.frm, .int .i64 zeroM.to, .int .i64 zeroM.ballot, .int .i64 zeroM.slot, .int .i64 zeroM.blob, .int .i64 zeroM.index, .int .i64 zeroM.epoch, .int .i64 zeroM.id, .bool zeroM.ok, .int .i64 zeroM.cmd.id, .int .i64 zeroM.cmd.kind, .string zeroM.cmd.key, .int .i64 zeroM.cmd.blob, .int .i64 zeroM.cmd.other, .int .i64 zeroM.cmd.index, .int .i64 zeroM.cmd.node, .int .i64 zeroM.cmd.size, .int .u32 zeroM.cmd.sum, .int .i64 zeroM.cmd.k, .int .i64 zeroM.cmd.m, .slice none 0 0, .slice none 0 0, .slice none 0 0] hr35 (by kernel_rfl) (by show (24 : Nat) ≤ 24; decide) (msg_one zeroM none none none 0 0 0 0 0 0) rfl ?_; intro w40 hgr40 hg40))
                  refine bodyPost_ret (results_row_tmp rfl _ _ w.heap.size 40 #[.int .i64 zeroM.kind, .int .i64 zeroM.frm, .int .i64 zeroM.to, .int .i64 zeroM.ballot, .int .i64 zeroM.slot, .int .i64 zeroM.blob, .int .i64 zeroM.index, .int .i64 zeroM.epoch, .int .i64 zeroM.id, .bool zeroM.ok, .int .i64 zeroM.cmd.id, .int .i64 zeroM.cmd.kind, .string zeroM.cmd.key, .int .i64 zeroM.cmd.blob, .int .i64 zeroM.cmd.other, .int .i64 zeroM.cmd.index, .int .i64 zeroM.cmd.node, .int .i64 zeroM.cmd.size, .int .u32 zeroM.cmd.sum, .int .i64 zeroM.cmd.k, .int .i64 zeroM.cmd.m, .slice none 0 0, .slice none 0 0, .slice none 0 0] (0, 0) _ rfl hg40 Try.underlying40 rfl (by kernel_rfl)) rfl ?_
                  exact ⟨none, 0, none, 0, none, 0, by rw [hon.out]; rfl, HB35.out.trans ⟨hgr40.os, hgr40.tape, hgr40.output, hgr40.size, fun k hk => hgr40.block k (by have := (HB35.out).size; omega) (by intro he; injection he with he; omega)⟩, by rw [hon.out]; exact mgown_zero _ _⟩
                | true =>
                  have hon : Hid (oneM l = some ⟨h11m, cn, V, bs⟩) := by
                    have := oneM_good HP.out (by rw [hmk.out]; exact HMAY.out)
                    rw [hmk.out] at this
                    exact this
                  go_wp2_with (first
                    | (refine wpList_load_at rfl 40 (.tmp 5) rfl rfl hatN Try.underlying40 rfl (by kernel_rfl) ?_)
                    | (refine wpList_put_at rfl 40 (.tmp 2) (.tmp 106) rfl w.heap.size 0 [.int .i64 h11m.kind, .int .i64 h11m.frm, .int .i64 h11m.to, .int .i64 h11m.ballot, .int .i64 h11m.slot, .int .i64 h11m.blob, .int .i64 h11m.index, .int .i64 h11m.epoch, .int .i64 h11m.id, .bool h11m.ok, .int .i64 h11m.cmd.id, .int .i64 h11m.cmd.kind, .string h11m.cmd.key, .int .i64 h11m.cmd.blob, .int .i64 h11m.cmd.other, .int .i64 h11m.cmd.index, .int .i64 h11m.cmd.node, .int .i64 h11m.cmd.size, .int .u32 h11m.cmd.sum, .int .i64 h11m.cmd.k, .int .i64 h11m.cmd.m, .slice P cn.length e', .slice X V.length ev, .slice A33 bs.length c33] rfl rfl 40 _ #[.int .i64 h11m.kind, .int .i64 h11m.frm, .int .i64 h11m.to, .int .i64 h11m.ballot, .int .i64 h11m.slot, .int .i64 h11m.blob, .int .i64 h11m.index, .int .i64 h11m.epoch, .int .i64 h11m.id, .bool h11m.ok, .int .i64 h11m.cmd.id, .int .i64 h11m.cmd.kind, .string h11m.cmd.key, .int .i64 h11m.cmd.blob, .int .i64 h11m.cmd.other, .int .i64 h11m.cmd.index, .int .i64 h11m.cmd.node, .int .i64 h11m.cmd.size, .int .u32 h11m.cmd.sum, .int .i64 h11m.cmd.k, .int .i64 h11m.cmd.m, .slice P cn.length e', .slice X V.length ev, .slice A33 bs.length c33] hr35 (by kernel_rfl) (by show (24 : Nat) ≤ 24; decide) (msg_one h11m P X A33 cn.length e' V.length ev bs.length c33) rfl ?_; intro w40 hgr40 hg40))
                  refine bodyPost_ret (results_row_tmp rfl _ _ w.heap.size 40 #[.int .i64 h11m.kind, .int .i64 h11m.frm, .int .i64 h11m.to, .int .i64 h11m.ballot, .int .i64 h11m.slot, .int .i64 h11m.blob, .int .i64 h11m.index, .int .i64 h11m.epoch, .int .i64 h11m.id, .bool h11m.ok, .int .i64 h11m.cmd.id, .int .i64 h11m.cmd.kind, .string h11m.cmd.key, .int .i64 h11m.cmd.blob, .int .i64 h11m.cmd.other, .int .i64 h11m.cmd.index, .int .i64 h11m.cmd.node, .int .i64 h11m.cmd.size, .int .u32 h11m.cmd.sum, .int .i64 h11m.cmd.k, .int .i64 h11m.cmd.m, .slice P cn.length e', .slice X V.length ev, .slice A33 bs.length c33] (0, 0) _ rfl hg40 Try.underlying40 rfl (by kernel_rfl)) rfl ?_
                  exact ⟨P, e', X, ev, A33, c33, by rw [hon.out]; rfl, HB35.out.trans ⟨hgr40.os, hgr40.tape, hgr40.output, hgr40.size, fun k hk => hgr40.block k (by have := HB35.out.size; omega) (by intro he; injection he with he; omega)⟩, by rw [hon.out]; exact (HMO35.out.map (fun T sz v n xs h => own_keep h hgr40 (by omega))).lower (by omega)⟩
          · go_simp
            refine HN31.out.mono ?_
            rintro e w32 ⟨A32, c32, bs, s31, rfl, hA32, hfar32, hnil32, hS32, hgr32, hstep, hlt32, hcap32⟩
            have H31 := Lib.hid (show StepG (takeR kk) s30 bs s31 from hstep)
            have hz32 := hgr32.size
            have hg32 := (hgr32.block (w.heap.size + 1 + 1) (by omega) (by intro he; injection he with he; omega)).trans HG31.out
            have c23b := cell_of_row _ _ 23 _ _ (0, 0) hg32
            simp only [List.getElem?_toArray, List.getElem?_cons_succ, List.getElem?_cons_zero] at c23b
            have HG32 := Lib.hid hg32
            have HGR32 := Lib.hid hgr32
            have HS32 := Lib.hid hS32
            clear hstep hgr32 hg32 HN31 hS32 HG31
            go_wp2_with fail
            refine hKK.out _ _ trivial (fun _ => ?_)
            clear hKK KK
            (try simp only [List.getElem_toArray, List.getElem_cons_succ, List.getElem_cons_zero, Act.put, List.setIfInBounds_toArray, List.set_cons_zero, List.set_cons_succ])
            refine wpAnyH_ready (rs := [1]) (by kernel_rfl) (by simp) ?_; refine AllReadyH.cons rfl (fun KK hKK => ?_) AllReadyH.nil
            go_simp
            go_wp2_with fail
            refine hKK.out _ _ trivial (fun _ => ?_)
            clear hKK KK
            (try simp only [List.getElem_toArray, List.getElem_cons_succ, List.getElem_cons_zero, Act.put, List.setIfInBounds_toArray, List.set_cons_zero, List.set_cons_succ])
            refine wpAnyH_ready (rs := [6]) (by kernel_rfl) (by simp) ?_; refine AllReadyH.cons rfl (fun KK hKK => ?_) AllReadyH.nil
            have hsz32 : w3.heap.size ≤ w32.heap.size := by omega
            refine step_app_bytes rfl (.tmp 81) (.tmp 85) rfl w3.heap.size (v := .slice none 0 0) (n := 0) (xs := []) rfl (World.ownsRow_nil _ _ _ _ : w32.ownsRow w3.heap.size 5 1 (.slice none 0 0) 0 (bys [])) rfl (news := bs) rfl hA32 hnil32 (by omega) hsz32 ?_
            intro A33 c33 w33 ho33 hb33 hg33 hcap33
            have hgq33 := hg33.1
            clear hg33
            rw [List.nil_append, Nat.zero_add] at ho33
            rw [Nat.zero_add]
            have hg33G := (hb33.block (w.heap.size + 1 + 1) (by omega)).trans HG32.out
            have c23 := cell_of_row _ _ 23 _ _ (0, 0) hg33G
            have f23 := frozen_of_row _ _ 23 _ _ hg33G
            simp only [List.getElem?_toArray, List.getElem?_cons_succ, List.getElem?_cons_zero] at c23
            clear hA32 hfar32 hnil32 c23a c23b c23D hcap33 hcap32
            refine hKK.out _ _ trivial (fun _ => ?_)
            clear hKK KK
            (try simp only [List.getElem_toArray, List.getElem_cons_succ, List.getElem_cons_zero, Act.put, List.setIfInBounds_toArray, List.set_cons_zero, List.set_cons_succ])
            refine wpAnyH_take (i := 7) (v := ?_) rfl (by kernel_rfl) (by kernel_rfl) (by kernel_rfl) (fun _ _ _ h => h) (Or.inl ⟨by rfl, ?_⟩) (by assumption) ?_; rotate_left; (intro w hSw; (try dsimp only at hSw); go_simp; (first | done | (with_reducible rfl))); (try simp only [List.getElem_toArray, List.getElem_cons_succ, List.getElem_cons_zero, Act.put, List.setIfInBounds_toArray, List.set_cons_zero, List.set_cons_succ])
            refine wpAnyH_ready (rs := [8]) (by kernel_rfl) (by simp) ?_; refine AllReadyH.cons rfl (fun KK hKK => ?_) AllReadyH.nil
            go_simp
            go_wp2_with fail
            refine hKK.out _ _ trivial (fun _ => ?_)
            clear hKK KK
            (try simp only [List.getElem_toArray, List.getElem_cons_succ, List.getElem_cons_zero, Act.put, List.setIfInBounds_toArray, List.set_cons_zero, List.set_cons_succ])
            refine wpAnyH_done (by kernel_rfl) ?_ _
            have hset34 := heap_setCell_same w33 (w.heap.size + 1 + 1) 23 _ _ (.slice A33 bs.length c33) hg33G
            have hg34 : (w33.setCell ⟨w.heap.size + 1 + 1, 23, none⟩ (.slice A33 bs.length c33)).heap[w.heap.size + 1 + 1]? = some (.cells #[.int .i64 h11m.kind, .int .i64 h11m.frm, .int .i64 h11m.to, .int .i64 h11m.ballot, .int .i64 h11m.slot, .int .i64 h11m.blob, .int .i64 h11m.index, .int .i64 h11m.epoch, .int .i64 h11m.id, .bool h11m.ok, .int .i64 h11m.cmd.id, .int .i64 h11m.cmd.kind, .string h11m.cmd.key, .int .i64 h11m.cmd.blob, .int .i64 h11m.cmd.other, .int .i64 h11m.cmd.index, .int .i64 h11m.cmd.node, .int .i64 h11m.cmd.size, .int .u32 h11m.cmd.sum, .int .i64 h11m.cmd.k, .int .i64 h11m.cmd.m, .slice P cn.length e', .slice X V.length ev, .slice A33 bs.length c33] 40 (0, 0)) := hset34
            have hr33 := (hb33.block w.heap.size (by omega)).trans ((HGR32.out.block w.heap.size (by omega) (by intro he; injection he with he; omega)).trans ((HGR31.out.block w.heap.size (by omega) (by intro he; injection he with he; omega)).trans HRD.out))
            have hr34 := (heap_setCell_other w33 ⟨w.heap.size + 1 + 1, 23, none⟩ w.heap.size (.slice A33 bs.length c33) (by simp; omega)).trans hr33
            have hS34 := (HS32.out.belowB hb33 (by omega)).other (o := 23) (v := .slice A33 bs.length c33) (by omega : (w.heap.size + 1) < (w.heap.size + 1 + 1))
            have hT34 := (((HTD.out.trans (Two.of1 HGR31.out)).trans (Two.of1 HGR32.out)).below hb33).trans (Two.of2 (p := (w.heap.size + 1)) (grown_set w33 (w.heap.size + 1 + 1) 23 (.slice A33 bs.length c33)))
            have fk : ∀ T sz v n xs, WD.ownsRow w3.heap.size T sz v n xs → T ≠ 5 → (w33.setCell ⟨w.heap.size + 1 + 1, 23, none⟩ (.slice A33 bs.length c33)).ownsRow w3.heap.size T sz v n xs := fun T sz v n xs h hT =>
              ownsRow_setCell_below (own_app (own_keep (own_keep h HGR31.out (by omega)) HGR32.out (by omega)) hgq33) (show w.heap.size + 1 + 1 < w3.heap.size by omega) _
            have ho34 := ownsRow_setCell_below ho33 (show w.heap.size + 1 + 1 < w3.heap.size by omega) (.slice A33 bs.length c33) (a := ⟨w.heap.size + 1 + 1, 23, none⟩)
            have hMO : MgOwn (w33.setCell ⟨w.heap.size + 1 + 1, 23, none⟩ (.slice A33 bs.length c33)) w3.heap.size P e' X ev A33 c33 ⟨h11m, cn, V, bs⟩ :=
              ⟨fk _ _ _ _ _ HCD.out (by decide), hcl, ⟨us, fk _ _ _ _ _ HVD.out (by decide), VtsO.map (fun v n xs h => fk _ _ v n xs h (by decide)) _ _ HVOD.out⟩, hnn, ho34, by simp only; omega, by rw [show (⟨h11m, cn, V, bs⟩ : Mg).h.cmd = cc by show h11m.cmd = cc; rw [HH11.out]; rfl]; exact HSM.out⟩
            have HP : Hid (StepG partsM (some l) ([m1, m2, m3, m4, m5, m6, m7, m8, m9], okv, (cc, cn), V.length, V, kk, bs) s31) := by
              show StepG partsM _ _ _
              unfold partsM
              exact HNUM.out.then' (H11.out.then' (H12.out.then' (H13.out.then' (HV.out.then' (H30.out.then' H31.out)))))
            have hmk : Hid (mkM [m1, m2, m3, m4, m5, m6, m7, m8, m9] okv cc cn V bs = ⟨h11m, cn, V, bs⟩) := by show _ = _; rw [HH11.out, HH10.out]; rfl
            have hz34 : w3.heap.size ≤ (w33.setCell ⟨w.heap.size + 1 + 1, 23, none⟩ (.slice A33 bs.length c33)).heap.size := by simp; have := hb33.size; omega
            clear hset34 hr33 hg33G c23 f23 ho33 ho34 hb33 fk HGR31 HGR32 HVD HVOD HCD HGD HRD HTD HNUM H11 H12 H13 HV H30 H31 HH11 HH10 HG32 HS32
            generalize w33.setCell ⟨w.heap.size + 1 + 1, 23, none⟩ (.slice A33 bs.length c33) = w34 at *
            have hatM : At w34 (some ⟨w.heap.size + 1 + 1, 0, none⟩) [.int .i64 h11m.kind, .int .i64 h11m.frm, .int .i64 h11m.to, .int .i64 h11m.ballot, .int .i64 h11m.slot, .int .i64 h11m.blob, .int .i64 h11m.index, .int .i64 h11m.epoch, .int .i64 h11m.id, .bool h11m.ok, .int .i64 h11m.cmd.id, .int .i64 h11m.cmd.kind, .string h11m.cmd.key, .int .i64 h11m.cmd.blob, .int .i64 h11m.cmd.other, .int .i64 h11m.cmd.index, .int .i64 h11m.cmd.node, .int .i64 h11m.cmd.size, .int .u32 h11m.cmd.sum, .int .i64 h11m.cmd.k, .int .i64 h11m.cmd.m, .slice P cn.length e', .slice X V.length ev, .slice A33 bs.length c33] := at_cells hg34
            have HMM := Lib.hid (rmayMsg_calls (e := ev) hMO.at)
            simp only at HMM
            have HMO := Lib.hid hMO
            have HG34 := Lib.hid hg34
            have HB34 := Lib.hid (below_two HB3.out hT34 (by omega))
            clear hMO hg34 hT34
            obtain ⟨hfc, hff⟩ := hS34.flag
            cases s31 with
            | none =>
              have hon : Hid (oneM l = none) := oneM_none HP.out (.inl rfl)
              simp only [Option.isNone_none] at hfc
              clear hS34
              go_wp2_with (first
                | (refine wpList_put_at rfl 40 (.tmp 2) (.tmp 105) rfl w.heap.size 0 [.int .i64 zeroM.kind, .int .i64 zeroM.frm, .int .i64 zeroM.to, .int .i64 zeroM.ballot, .int .i64 zeroM.slot, .int .i64 zeroM.blob, .int .i64 zeroM.index, .int .i64 zeroM.epoch, .int .i64 zeroM.id, .bool zeroM.ok, .int .i64 zeroM.cmd.id, .int .i64 zeroM.cmd.kind, .string zeroM.cmd.key, .int .i64 zeroM.cmd.blob, .int .i64 zeroM.cmd.other, .int .i64 zeroM.cmd.index, .int .i64 zeroM.cmd.node, .int .i64 zeroM.cmd.size, .int .u32 zeroM.cmd.sum, .int .i64 zeroM.cmd.k, .int .i64 zeroM.cmd.m, .slice none 0 0, .slice none 0 0, .slice none 0 0] rfl rfl 40 _ #[.int .i64 zeroM.kind, .int .i64 zeroM.frm, .int .i64 zeroM.to, .int .i64 zeroM.ballot, .int .i64 zeroM.slot, .int .i64 zeroM.blob, .int .i64 zeroM.index, .int .i64 zeroM.epoch, .int .i64 zeroM.id, .bool zeroM.ok, .int .i64 zeroM.cmd.id, .int .i64 zeroM.cmd.kind, .string zeroM.cmd.key, .int .i64 zeroM.cmd.blob, .int .i64 zeroM.cmd.other, .int .i64 zeroM.cmd.index, .int .i64 zeroM.cmd.node, .int .i64 zeroM.cmd.size, .int .u32 zeroM.cmd.sum, .int .i64 zeroM.cmd.k, .int .i64 zeroM.cmd.m, .slice none 0 0, .slice none 0 0, .slice none 0 0] hr34 (by kernel_rfl) (by show (24 : Nat) ≤ 24; decide) (msg_one zeroM none none none 0 0 0 0 0 0) rfl ?_; intro w40 hgr40 hg40))
              refine bodyPost_ret (results_row_tmp rfl _ _ w.heap.size 40 #[.int .i64 zeroM.kind, .int .i64 zeroM.frm, .int .i64 zeroM.to, .int .i64 zeroM.ballot, .int .i64 zeroM.slot, .int .i64 zeroM.blob, .int .i64 zeroM.index, .int .i64 zeroM.epoch, .int .i64 zeroM.id, .bool zeroM.ok, .int .i64 zeroM.cmd.id, .int .i64 zeroM.cmd.kind, .string zeroM.cmd.key, .int .i64 zeroM.cmd.blob, .int .i64 zeroM.cmd.other, .int .i64 zeroM.cmd.index, .int .i64 zeroM.cmd.node, .int .i64 zeroM.cmd.size, .int .u32 zeroM.cmd.sum, .int .i64 zeroM.cmd.k, .int .i64 zeroM.cmd.m, .slice none 0 0, .slice none 0 0, .slice none 0 0] (0, 0) _ rfl hg40 Try.underlying40 rfl (by kernel_rfl)) rfl ?_
              exact ⟨none, 0, none, 0, none, 0, by rw [hon.out]; rfl, HB34.out.trans ⟨hgr40.os, hgr40.tape, hgr40.output, hgr40.size, fun k hk => hgr40.block k (by have := (HB34.out).size; omega) (by intro he; injection he with he; omega)⟩, by rw [hon.out]; exact mgown_zero _ _⟩
            | some rr =>
              simp only [Option.isNone_some] at hfc
              obtain ⟨A5, c5, hR5⟩ := hS34
              have hb0 := cell_of_row _ _ 0 _ _ (0, 0) hR5.hd
              simp only [List.getElem?_toArray, List.getElem?_cons_succ, List.getElem?_cons_zero] at hb0
              clear hR5
              cases rr with
              | cons y rr =>
                have hon : Hid (oneM l = none) := oneM_none HP.out (.inr (.inl ⟨y, rr, rfl⟩))
                simp only [List.length_cons] at hb0
                have hpos : (0 : Int) < ((rr.length + 1 : Nat) : Int) := by omega
                go_wp2_with (first
                  | (refine wpList_put_at rfl 40 (.tmp 2) (.tmp 105) rfl w.heap.size 0 [.int .i64 zeroM.kind, .int .i64 zeroM.frm, .int .i64 zeroM.to, .int .i64 zeroM.ballot, .int .i64 zeroM.slot, .int .i64 zeroM.blob, .int .i64 zeroM.index, .int .i64 zeroM.epoch, .int .i64 zeroM.id, .bool zeroM.ok, .int .i64 zeroM.cmd.id, .int .i64 zeroM.cmd.kind, .string zeroM.cmd.key, .int .i64 zeroM.cmd.blob, .int .i64 zeroM.cmd.other, .int .i64 zeroM.cmd.index, .int .i64 zeroM.cmd.node, .int .i64 zeroM.cmd.size, .int .u32 zeroM.cmd.sum, .int .i64 zeroM.cmd.k, .int .i64 zeroM.cmd.m, .slice none 0 0, .slice none 0 0, .slice none 0 0] rfl rfl 40 _ #[.int .i64 zeroM.kind, .int .i64 zeroM.frm, .int .i64 zeroM.to, .int .i64 zeroM.ballot, .int .i64 zeroM.slot, .int .i64 zeroM.blob, .int .i64 zeroM.index, .int .i64 zeroM.epoch, .int .i64 zeroM.id, .bool zeroM.ok, .int .i64 zeroM.cmd.id, .int .i64 zeroM.cmd.kind, .string zeroM.cmd.key, .int .i64 zeroM.cmd.blob, .int .i64 zeroM.cmd.other, .int .i64 zeroM.cmd.index, .int .i64 zeroM.cmd.node, .int .i64 zeroM.cmd.size, .int .u32 zeroM.cmd.sum, .int .i64 zeroM.cmd.k, .int .i64 zeroM.cmd.m, .slice none 0 0, .slice none 0 0, .slice none 0 0] hr34 (by kernel_rfl) (by show (24 : Nat) ≤ 24; decide) (msg_one zeroM none none none 0 0 0 0 0 0) rfl ?_; intro w40 hgr40 hg40))
                refine bodyPost_ret (results_row_tmp rfl _ _ w.heap.size 40 #[.int .i64 zeroM.kind, .int .i64 zeroM.frm, .int .i64 zeroM.to, .int .i64 zeroM.ballot, .int .i64 zeroM.slot, .int .i64 zeroM.blob, .int .i64 zeroM.index, .int .i64 zeroM.epoch, .int .i64 zeroM.id, .bool zeroM.ok, .int .i64 zeroM.cmd.id, .int .i64 zeroM.cmd.kind, .string zeroM.cmd.key, .int .i64 zeroM.cmd.blob, .int .i64 zeroM.cmd.other, .int .i64 zeroM.cmd.index, .int .i64 zeroM.cmd.node, .int .i64 zeroM.cmd.size, .int .u32 zeroM.cmd.sum, .int .i64 zeroM.cmd.k, .int .i64 zeroM.cmd.m, .slice none 0 0, .slice none 0 0, .slice none 0 0] (0, 0) _ rfl hg40 Try.underlying40 rfl (by kernel_rfl)) rfl ?_
                exact ⟨none, 0, none, 0, none, 0, by rw [hon.out]; rfl, HB34.out.trans ⟨hgr40.os, hgr40.tape, hgr40.output, hgr40.size, fun k hk => hgr40.block k (by have := (HB34.out).size; omega) (by intro he; injection he with he; omega)⟩, by rw [hon.out]; exact mgown_zero _ _⟩
              | nil =>
                simp only [List.length_nil] at hb0
                go_wp2_with (refine load_atG (by rfl) 40 (.tmp 5) rfl rfl hatM Try.underlying40 rfl (by kernel_rfl) ?_)
                refine HMM.out.mono ?_
                rintro e w35 ⟨rfl, hb35⟩
                have hz35 := hb35.size
                have hr35 := (hb35.block w.heap.size (by omega)).trans hr34
                have hatN : At w35 (some ⟨w.heap.size + 1 + 1, 0, none⟩) [.int .i64 h11m.kind, .int .i64 h11m.frm, .int .i64 h11m.to, .int .i64 h11m.ballot, .int .i64 h11m.slot, .int .i64 h11m.blob, .int .i64 h11m.index, .int .i64 h11m.epoch, .int .i64 h11m.id, .bool h11m.ok, .int .i64 h11m.cmd.id, .int .i64 h11m.cmd.kind, .string h11m.cmd.key, .int .i64 h11m.cmd.blob, .int .i64 h11m.cmd.other, .int .i64 h11m.cmd.index, .int .i64 h11m.cmd.node, .int .i64 h11m.cmd.size, .int .u32 h11m.cmd.sum, .int .i64 h11m.cmd.k, .int .i64 h11m.cmd.m, .slice P cn.length e', .slice X V.length ev, .slice A33 bs.length c33] := at_cells ((hb35.block (w.heap.size + 1 + 1) (by omega)).trans HG34.out)
                have HB35 := Lib.hid (HB34.out.trans (hb35.mono (by omega)))
                have HMO35 := Lib.hid (HMO.out.map (fun T sz v n xs h => own_below h hb35))
                clear HMM hatM hb35 HB34 HMO HG34
                generalize hmay : mayM ⟨h11m, cn, V, bs⟩ = may at *
                have HMAY := Lib.hid hmay
                clear hmay
                cases may with
                | false =>
                  have hon : Hid (oneM l = none) := oneM_none HP.out (.inr (.inr (by rw [hmk.out]; exact HMAY.out)))
                  go_wp2_with (first
                    | (refine wpList_put_at rfl 40 (.tmp 2) (.tmp 105) rfl w.heap.size 0 [.int .i64 zeroM.kind, .int .i64 zeroM.frm, .int .i64 zeroM.to, .int .i64 zeroM.ballot, .int .i64 zeroM.slot, .int .i64 zeroM.blob, .int .i64 zeroM.index, .int .i64 zeroM.epoch, .int .i64 zeroM.id, .bool zeroM.ok, .int .i64 zeroM.cmd.id, .int .i64 zeroM.cmd.kind, .string zeroM.cmd.key, .int .i64 zeroM.cmd.blob, .int .i64 zeroM.cmd.other, .int .i64 zeroM.cmd.index, .int .i64 zeroM.cmd.node, .int .i64 zeroM.cmd.size, .int .u32 zeroM.cmd.sum, .int .i64 zeroM.cmd.k, .int .i64 zeroM.cmd.m, .slice none 0 0, .slice none 0 0, .slice none 0 0] rfl rfl 40 _ #[.int .i64 zeroM.kind, .int .i64 zeroM.frm, .int .i64 zeroM.to, .int .i64 zeroM.ballot, .int .i64 zeroM.slot, .int .i64 zeroM.blob, .int .i64 zeroM.index, .int .i64 zeroM.epoch, .int .i64 zeroM.id, .bool zeroM.ok, .int .i64 zeroM.cmd.id, .int .i64 zeroM.cmd.kind, .string zeroM.cmd.key, .int .i64 zeroM.cmd.blob, .int .i64 zeroM.cmd.other, .int .i64 zeroM.cmd.index, .int .i64 zeroM.cmd.node, .int .i64 zeroM.cmd.size, .int .u32 zeroM.cmd.sum, .int .i64 zeroM.cmd.k, .int .i64 zeroM.cmd.m, .slice none 0 0, .slice none 0 0, .slice none 0 0] hr35 (by kernel_rfl) (by show (24 : Nat) ≤ 24; decide) (msg_one zeroM none none none 0 0 0 0 0 0) rfl ?_; intro w40 hgr40 hg40))
                  refine bodyPost_ret (results_row_tmp rfl _ _ w.heap.size 40 #[.int .i64 zeroM.kind, .int .i64 zeroM.frm, .int .i64 zeroM.to, .int .i64 zeroM.ballot, .int .i64 zeroM.slot, .int .i64 zeroM.blob, .int .i64 zeroM.index, .int .i64 zeroM.epoch, .int .i64 zeroM.id, .bool zeroM.ok, .int .i64 zeroM.cmd.id, .int .i64 zeroM.cmd.kind, .string zeroM.cmd.key, .int .i64 zeroM.cmd.blob, .int .i64 zeroM.cmd.other, .int .i64 zeroM.cmd.index, .int .i64 zeroM.cmd.node, .int .i64 zeroM.cmd.size, .int .u32 zeroM.cmd.sum, .int .i64 zeroM.cmd.k, .int .i64 zeroM.cmd.m, .slice none 0 0, .slice none 0 0, .slice none 0 0] (0, 0) _ rfl hg40 Try.underlying40 rfl (by kernel_rfl)) rfl ?_
                  exact ⟨none, 0, none, 0, none, 0, by rw [hon.out]; rfl, HB35.out.trans ⟨hgr40.os, hgr40.tape, hgr40.output, hgr40.size, fun k hk => hgr40.block k (by have := (HB35.out).size; omega) (by intro he; injection he with he; omega)⟩, by rw [hon.out]; exact mgown_zero _ _⟩
                | true =>
                  have hon : Hid (oneM l = some ⟨h11m, cn, V, bs⟩) := by
                    have := oneM_good HP.out (by rw [hmk.out]; exact HMAY.out)
                    rw [hmk.out] at this
                    exact this
                  go_wp2_with (first
                    | (refine wpList_load_at rfl 40 (.tmp 5) rfl rfl hatN Try.underlying40 rfl (by kernel_rfl) ?_)
                    | (refine wpList_put_at rfl 40 (.tmp 2) (.tmp 106) rfl w.heap.size 0 [.int .i64 h11m.kind, .int .i64 h11m.frm, .int .i64 h11m.to, .int .i64 h11m.ballot, .int .i64 h11m.slot, .int .i64 h11m.blob, .int .i64 h11m.index, .int .i64 h11m.epoch, .int .i64 h11m.id, .bool h11m.ok, .int .i64 h11m.cmd.id, .int .i64 h11m.cmd.kind, .string h11m.cmd.key, .int .i64 h11m.cmd.blob, .int .i64 h11m.cmd.other, .int .i64 h11m.cmd.index, .int .i64 h11m.cmd.node, .int .i64 h11m.cmd.size, .int .u32 h11m.cmd.sum, .int .i64 h11m.cmd.k, .int .i64 h11m.cmd.m, .slice P cn.length e', .slice X V.length ev, .slice A33 bs.length c33] rfl rfl 40 _ #[.int .i64 h11m.kind, .int .i64 h11m.frm, .int .i64 h11m.to, .int .i64 h11m.ballot, .int .i64 h11m.slot, .int .i64 h11m.blob, .int .i64 h11m.index, .int .i64 h11m.epoch, .int .i64 h11m.id, .bool h11m.ok, .int .i64 h11m.cmd.id, .int .i64 h11m.cmd.kind, .string h11m.cmd.key, .int .i64 h11m.cmd.blob, .int .i64 h11m.cmd.other, .int .i64 h11m.cmd.index, .int .i64 h11m.cmd.node, .int .i64 h11m.cmd.size, .int .u32 h11m.cmd.sum, .int .i64 h11m.cmd.k, .int .i64 h11m.cmd.m, .slice P cn.length e', .slice X V.length ev, .slice A33 bs.length c33] hr35 (by kernel_rfl) (by show (24 : Nat) ≤ 24; decide) (msg_one h11m P X A33 cn.length e' V.length ev bs.length c33) rfl ?_; intro w40 hgr40 hg40))
                  refine bodyPost_ret (results_row_tmp rfl _ _ w.heap.size 40 #[.int .i64 h11m.kind, .int .i64 h11m.frm, .int .i64 h11m.to, .int .i64 h11m.ballot, .int .i64 h11m.slot, .int .i64 h11m.blob, .int .i64 h11m.index, .int .i64 h11m.epoch, .int .i64 h11m.id, .bool h11m.ok, .int .i64 h11m.cmd.id, .int .i64 h11m.cmd.kind, .string h11m.cmd.key, .int .i64 h11m.cmd.blob, .int .i64 h11m.cmd.other, .int .i64 h11m.cmd.index, .int .i64 h11m.cmd.node, .int .i64 h11m.cmd.size, .int .u32 h11m.cmd.sum, .int .i64 h11m.cmd.k, .int .i64 h11m.cmd.m, .slice P cn.length e', .slice X V.length ev, .slice A33 bs.length c33] (0, 0) _ rfl hg40 Try.underlying40 rfl (by kernel_rfl)) rfl ?_
                  exact ⟨P, e', X, ev, A33, c33, by rw [hon.out]; rfl, HB35.out.trans ⟨hgr40.os, hgr40.tape, hgr40.output, hgr40.size, fun k hk => hgr40.block k (by have := HB35.out.size; omega) (by intro he; injection he with he; omega)⟩, by rw [hon.out]; exact (HMO35.out.map (fun T sz v n xs h => own_keep h hgr40 (by omega))).lower (by omega)⟩
  · by_cases hx1 : 1 < x.toNat
    · have hx1i : (1 : Int) < (x.toNat : Int) := by omega
      have hs3 := hs1 hx1
      obtain ⟨hSb, hgb⟩ := HS10.out.bad
      have HS16 := Lib.hid hSb
      have HT16 := Lib.hid (HT15.out.trans (Two.of1 hgb))
      have HG16' := Lib.hid ((heap_setCell_other w15 ⟨w.heap.size + 1, 1, none⟩ (w.heap.size + 1 + 1) (.bool true) (by simp)).trans HG15.out)
      have hz16 : w3.heap.size ≤ (w15.setCell ⟨w.heap.size + 1, 1, none⟩ (.bool true)).heap.size := by simpa using hz15
      obtain ⟨okv, hokv⟩ : ∃ okv : Bool, okv = false := ⟨_, rfl⟩
      obtain ⟨h10m, hh10⟩ : ∃ h10m : Mh, h10m = Mh.mk (m1 : Int) (m2 : Int) (m3 : Int) (m4 : Int) (m5 : Int) (m6 : Int) (m7 : Int) (m8 : Int) (m9 : Int) okv zeroC := ⟨_, rfl⟩
      have HG16 : Hid ((w15.setCell ⟨w.heap.size + 1, 1, none⟩ (.bool true)).heap[w.heap.size + 1 + 1]? = some (.cells #[.int .i64 h10m.kind, .int .i64 h10m.frm, .int .i64 h10m.to, .int .i64 h10m.ballot, .int .i64 h10m.slot, .int .i64 h10m.blob, .int .i64 h10m.index, .int .i64 h10m.epoch, .int .i64 h10m.id, .bool h10m.ok, .int .i64 h10m.cmd.id, .int .i64 h10m.cmd.kind, .string h10m.cmd.key, .int .i64 h10m.cmd.blob, .int .i64 h10m.cmd.other, .int .i64 h10m.cmd.index, .int .i64 h10m.cmd.node, .int .i64 h10m.cmd.size, .int .u32 h10m.cmd.sum, .int .i64 h10m.cmd.k, .int .i64 h10m.cmd.m, .slice none 0 0, .slice none 0 0, .slice none 0 0] 40 (0, 0))) := by
        show _ = _
        rw [HG16'.out, hh10, HH9.out, hokv]
      have H11 := Lib.hid (hs3 okv)
      have HH10 := Lib.hid hh10
      clear hSb hgb HG16' hokv hh10 hs3
      obtain ⟨hfc, hff⟩ := HF.out
      simp only [Option.isNone_some] at hfc
      obtain ⟨bx, ox, hbx, hcx⟩ := HA10.out 0 _ rfl
      subst hbx
      rw [Nat.add_zero] at hcx
      replace hcx : w15.cell? ⟨bx, ox, none⟩ = some (.int .u8 (x.toNat : Int)) := hcx
      simp only [List.length_cons, List.length_nil]
      clear hs1 hs2 hx1
      go_wp2_with fail
      clear hfc hff hcx hx1i
      generalize w15.setCell ⟨w.heap.size + 1, 1, none⟩ (.bool true) = w16 at *
      clear HG15 HT15 HS10 HA10 HF HH9
      have HN11 := Lib.hid (rcmdS_calls HS16.out)
      clear HS16
      refine HN11.out.mono ?_
      rintro e w17 ⟨cc, cn, P, e', s12, rfl, hS17, hgr17, hown17, hstep, hcl, hsm⟩
      have H12 := Lib.hid (show StepG readC none (cc, cn) s12 from hstep)
      have HSM := Lib.hid hsm
      have hg17 := (hgr17.block (w.heap.size + 1 + 1) (by omega) (by intro he; injection he with he; omega)).trans HG16.out
      have HT17 := Lib.hid (HT16.out.trans (Two.of1 hgr17))
      have hz17 := hgr17.size
      obtain ⟨h11m, hh11m⟩ : ∃ h11m : Mh, h11m = Mh.withC h10m cc := ⟨_, rfl⟩
      have hnew : (#[.int .i64 h10m.kind, .int .i64 h10m.frm, .int .i64 h10m.to, .int .i64 h10m.ballot, .int .i64 h10m.slot, .int .i64 h10m.blob, .int .i64 h10m.index, .int .i64 h10m.epoch, .int .i64 h10m.id, .bool h10m.ok, .int .i64 h10m.cmd.id, .int .i64 h10m.cmd.kind, .string h10m.cmd.key, .int .i64 h10m.cmd.blob, .int .i64 h10m.cmd.other, .int .i64 h10m.cmd.index, .int .i64 h10m.cmd.node, .int .i64 h10m.cmd.size, .int .u32 h10m.cmd.sum, .int .i64 h10m.cmd.k, .int .i64 h10m.cmd.m, .slice none 0 0, .slice none 0 0, .slice none 0 0] : Array Value).toList.take 10 ++ [.int .i64 cc.id, .int .i64 cc.kind, .string cc.key, .int .i64 cc.blob, .int .i64 cc.other, .int .i64 cc.index, .int .i64 cc.node, .int .i64 cc.size, .int .u32 cc.sum, .int .i64 cc.k, .int .i64 cc.m, .slice P cn.length e'] ++ (#[.int .i64 h10m.kind, .int .i64 h10m.frm, .int .i64 h10m.to, .int .i64 h10m.ballot, .int .i64 h10m.slot, .int .i64 h10m.blob, .int .i64 h10m.index, .int .i64 h10m.epoch, .int .i64 h10m.id, .bool h10m.ok, .int .i64 h10m.cmd.id, .int .i64 h10m.cmd.kind, .string h10m.cmd.key, .int .i64 h10m.cmd.blob, .int .i64 h10m.cmd.other, .int .i64 h10m.cmd.index, .int .i64 h10m.cmd.node, .int .i64 h10m.cmd.size, .int .u32 h10m.cmd.sum, .int .i64 h10m.cmd.k, .int .i64 h10m.cmd.m, .slice none 0 0, .slice none 0 0, .slice none 0 0] : Array Value).toList.drop (10 + 12) = (#[.int .i64 h11m.kind, .int .i64 h11m.frm, .int .i64 h11m.to, .int .i64 h11m.ballot, .int .i64 h11m.slot, .int .i64 h11m.blob, .int .i64 h11m.index, .int .i64 h11m.epoch, .int .i64 h11m.id, .bool h11m.ok, .int .i64 h11m.cmd.id, .int .i64 h11m.cmd.kind, .string h11m.cmd.key, .int .i64 h11m.cmd.blob, .int .i64 h11m.cmd.other, .int .i64 h11m.cmd.index, .int .i64 h11m.cmd.node, .int .i64 h11m.cmd.size, .int .u32 h11m.cmd.sum, .int .i64 h11m.cmd.k, .int .i64 h11m.cmd.m, .slice P cn.length e', .slice none 0 0, .slice none 0 0] : Array Value).toList := by rw [hh11m]; exact msg_put _ _ _ _ _ _
      have HNEW := Lib.hid hnew
      have HH11 := Lib.hid hh11m
      have hown17' := own_lower hown17 (show w3.heap.size ≤ w16.heap.size by omega)
      clear hstep hsm hgr17 HN11 HG16 HT16 hnew hh11m hown17
      unfold cmv
      go_wp2_with (refine wpList_put_at rfl 27 (.tmp 60) (.tmp 59) rfl (w.heap.size + 1 + 1) 10 [.int .i64 cc.id, .int .i64 cc.kind, .string cc.key, .int .i64 cc.blob, .int .i64 cc.other, .int .i64 cc.index, .int .i64 cc.node, .int .i64 cc.size, .int .u32 cc.sum, .int .i64 cc.k, .int .i64 cc.m, .slice P cn.length e'] rfl rfl 40 _ #[.int .i64 h11m.kind, .int .i64 h11m.frm, .int .i64 h11m.to, .int .i64 h11m.ballot, .int .i64 h11m.slot, .int .i64 h11m.blob, .int .i64 h11m.index, .int .i64 h11m.epoch, .int .i64 h11m.id, .bool h11m.ok, .int .i64 h11m.cmd.id, .int .i64 h11m.cmd.kind, .string h11m.cmd.key, .int .i64 h11m.cmd.blob, .int .i64 h11m.cmd.other, .int .i64 h11m.cmd.index, .int .i64 h11m.cmd.node, .int .i64 h11m.cmd.size, .int .u32 h11m.cmd.sum, .int .i64 h11m.cmd.k, .int .i64 h11m.cmd.m, .slice P cn.length e', .slice none 0 0, .slice none 0 0] hg17 (by kernel_rfl) (by show (22 : Nat) ≤ 24; decide) (cmd_one cc P cn.length e') HNEW.out ?_; intro w18 hgr18 hg18; have hS18 := hS17.grown hgr18 (by omega); have HN12 := Lib.hid (rlistS_calls (most := 1000) hS18 (by decide)))
      have hz18 := hgr18.size
      have HG18 := Lib.hid hg18
      have HT18 := Lib.hid (HT17.out.trans (Two.of2 hgr18))
      have hown18 := own_keep hown17' hgr18 (by omega)
      clear hg18 hgr18 hg17 hown17' hS17 hS18 HNEW HT17
      refine HN12.out.mono ?_
      rintro e w19 ⟨nn, s13, rfl, hS19, hgr19, hstep, hnn⟩
      have H13 := Lib.hid (show StepG (numR 1000) s12 nn s13 from hstep)
      have hT19 := HT18.out.trans (Two.of1 hgr19)
      have HG19 := Lib.hid ((hgr19.block (w.heap.size + 1 + 1) (by omega) (by intro he; injection he with he; omega)).trans HG18.out)
      have hown19 := own_keep hown18 hgr19 (by omega)
      have hz19 := hgr19.size
      clear hstep HN12 HG18 hown18 hgr19 HT18
      go_wp2_with fail
      have hnil19 : w19.ownsRow w3.heap.size 74 14 (.slice none 0 0) 0 [] := World.ownsRow_nil _ _ _ _
      go_loopw [63] (fun s63 wr => ∃ (t : Nat) (V : List Vt) (sl : Option (List B8)) (X : Option Addr) (ev : Nat) (us : List Value), t ≤ nn ∧ s63 = .int .i64 ((t : Nat) : Int) ∧ V.length = t ∧ Hid (StepG (votesR t) s13 V sl) ∧ RdS wr (w.heap.size + 1) sl ∧ Hid (wr.heap[w.heap.size + 1 + 1]? = some (.cells #[.int .i64 h11m.kind, .int .i64 h11m.frm, .int .i64 h11m.to, .int .i64 h11m.ballot, .int .i64 h11m.slot, .int .i64 h11m.blob, .int .i64 h11m.index, .int .i64 h11m.epoch, .int .i64 h11m.id, .bool h11m.ok, .int .i64 h11m.cmd.id, .int .i64 h11m.cmd.kind, .string h11m.cmd.key, .int .i64 h11m.cmd.blob, .int .i64 h11m.cmd.other, .int .i64 h11m.cmd.index, .int .i64 h11m.cmd.node, .int .i64 h11m.cmd.size, .int .u32 h11m.cmd.sum, .int .i64 h11m.cmd.k, .int .i64 h11m.cmd.m, .slice P cn.length e', .slice X t ev, .slice none 0 0] 40 (0, 0))) ∧ wr.ownsRow w3.heap.size 74 14 (.slice X t ev) t us ∧ Hid (VtsO wr w3.heap.size us V) ∧ Two w3 wr (w.heap.size + 1) (w.heap.size + 1 + 1) ∧ wr.ownsRow w3.heap.size 3 1 (.slice P cn.length e') cn.length (ints cn)) (fun s63 _ => nn - (intOf s63).toNat)
      case atStart => exact ⟨0, [], s13, none, 0, [], by omega, rfl, rfl, Lib.hid StepG.votes0, hS19, HG19, hnil19, rfl, hT19, hown19⟩
      case round =>
        obtain ⟨t, V, sl, X, ev, us, ht, rfl, hVl, HV, hS, HG, hvo, HVO, hT, hco⟩ := hrel
        rename World => wr
        clear hS19 HG19 hnil19 hT19 hown19
        have hzr := hT.size
        by_cases htn : t < nn
        · have hti : (t : Int) < (nn : Int) := by omega
          have HN20 := Lib.hid (rnumS_calls hS)
          have HTr := Lib.hid hT
          clear hS hT
          go_wp2_with fail
          refine HN20.out.mono ?_
          rintro e w20 ⟨b0, s20, rfl, hS20, hgr20, hstep⟩
          have H20 := Lib.hid (show StepG (numR 1152921504606846976) sl b0 s20 from hstep)
          have HGR20 := Lib.hid hgr20
          have hz20 := hgr20.size
          have HN21 := Lib.hid (rnumS_calls hS20)
          clear hstep hgr20 HN20 hS20
          go_wp2_with fail
          refine HN21.out.mono ?_
          rintro e w21 ⟨b1, s21, rfl, hS21, hgr21, hstep⟩
          have H21 := Lib.hid (show StepG (numR 1152921504606846976) s20 b1 s21 from hstep)
          have HGR21 := Lib.hid hgr21
          have hz21 := hgr21.size
          obtain ⟨w22, hw22, hB22, hv22, hz22⟩ := any_box w21 #[.int .i64 (b0 : Int), .int .i64 (b1 : Int), .int .i64 zeroC.id, .int .i64 zeroC.kind, .string zeroC.key, .int .i64 zeroC.blob, .int .i64 zeroC.other, .int .i64 zeroC.index, .int .i64 zeroC.node, .int .i64 zeroC.size, .int .u32 zeroC.sum, .int .i64 zeroC.k, .int .i64 zeroC.m, .slice none 0 0] 74
          have HN23 := Lib.hid (rcmdS_calls (hS21.belowB hB22 (by omega)))
          have HW22 := Lib.hid hw22
          have HB22 := Lib.hid hB22
          have HV22 := Lib.hid hv22
          clear hstep hgr21 HN21 hS21 hw22 hB22 hv22
          go_wp2_with fail
          have hw22 := HW22.out
          rw [show w21.alloc (.cells #[.int .i64 (b0 : Int), .int .i64 (b1 : Int), .int .i64 0, .int .i64 0, .string ⟨#[]⟩, .int .i64 0, .int .i64 0, .int .i64 0, .int .i64 0, .int .i64 0, .int .u32 0, .int .i64 0, .int .i64 0, .slice none 0 0] 74) = w22 from hw22.symm]
          clear hw22 HW22
          refine HN23.out.mono ?_
          rintro e w23 ⟨vc, vn, Pv, ev', s23, rfl, hS23, hgr23, hown23, hstep, hvl, hvs⟩
          have H23 := Lib.hid (show StepG readC s21 (vc, vn) s23 from hstep)
          have hg23 := (hgr23.block w21.heap.size (by omega) (by intro he; injection he with he; omega)).trans HV22.out
          have hz23 := hgr23.size
          have HGR23 := Lib.hid hgr23
          have HVS := Lib.hid hvs
          clear hstep hgr23 HN23 HV22 hvs
          unfold cmv
          go_wp2_with (first
            | (refine wpList_put_at rfl 27 (.tmp 72) (.tmp 71) rfl w21.heap.size 2 [.int .i64 vc.id, .int .i64 vc.kind, .string vc.key, .int .i64 vc.blob, .int .i64 vc.other, .int .i64 vc.index, .int .i64 vc.node, .int .i64 vc.size, .int .u32 vc.sum, .int .i64 vc.k, .int .i64 vc.m, .slice Pv vn.length ev'] rfl rfl 74 _ #[.int .i64 (b0 : Int), .int .i64 (b1 : Int), .int .i64 vc.id, .int .i64 vc.kind, .string vc.key, .int .i64 vc.blob, .int .i64 vc.other, .int .i64 vc.index, .int .i64 vc.node, .int .i64 vc.size, .int .u32 vc.sum, .int .i64 vc.k, .int .i64 vc.m, .slice Pv vn.length ev'] hg23 (by kernel_rfl) (by show (14 : Nat) ≤ 14; decide) (cmd_one vc Pv vn.length ev') (vote_put _ _ _ _ _ _) ?_; intro w24 hgr24 hg24
               have hz24 := hgr24.size
               have hgN := (hgr24.block (w.heap.size + 1 + 1) (by omega) (by intro he; injection he with he; omega)).trans ((HGR23.out.block (w.heap.size + 1 + 1) (by omega) (by intro he; injection he with he; omega)).trans ((HB22.out.block (w.heap.size + 1 + 1) (by omega)).trans ((HGR21.out.block (w.heap.size + 1 + 1) (by omega) (by intro he; injection he with he; omega)).trans ((HGR20.out.block (w.heap.size + 1 + 1) (by omega) (by intro he; injection he with he; omega)).trans HG.out))))
               have c22 := cell_of_row _ _ 22 _ _ (0, 0) hgN
               simp only [List.getElem?_toArray, List.getElem?_cons_succ, List.getElem?_cons_zero] at c22
               have hat24 : At w24 (some ⟨w21.heap.size, 0, none⟩) [.int .i64 (b0 : Int), .int .i64 (b1 : Int), .int .i64 vc.id, .int .i64 vc.kind, .string vc.key, .int .i64 vc.blob, .int .i64 vc.other, .int .i64 vc.index, .int .i64 vc.node, .int .i64 vc.size, .int .u32 vc.sum, .int .i64 vc.k, .int .i64 vc.m, .slice Pv vn.length ev'] := at_cells hg24
               have hks : KeepS w3.heap.size w21.heap.size w21 w24 := fun k hk1 hk2 => (hgr24.block k (by omega) (by intro he; injection he with he; omega)).trans ((HGR23.out.block k (by omega) (by intro he; injection he with he; omega)).trans (HB22.out.block k (by omega)))
               have ho24 := own_keepS (own_keep (own_keep hvo HGR20.out (by omega)) HGR21.out (by omega)) hks
               have HCO24 := Lib.hid (own_keepS (own_keep (own_keep hco HGR20.out (by omega)) HGR21.out (by omega)) hks)
               have HVO24 := Lib.hid (VtsO.map (fun v n xs h => own_keepS (own_keep (own_keep h HGR20.out (by omega)) HGR21.out (by omega)) hks) _ _ HVO.out)
               have hnv24 := own_keep hown23 hgr24 (by omega)
               have hbl := below1' w24 (.cells #[.int .i64 (b0 : Int), .int .i64 (b1 : Int), .int .i64 vc.id, .int .i64 vc.kind, .string vc.key, .int .i64 vc.blob, .int .i64 vc.other, .int .i64 vc.index, .int .i64 vc.node, .int .i64 vc.size, .int .u32 vc.sum, .int .i64 vc.k, .int .i64 vc.m, .slice Pv vn.length ev'] 74)
               have hat25 : At (w24.alloc (.cells #[.int .i64 (b0 : Int), .int .i64 (b1 : Int), .int .i64 vc.id, .int .i64 vc.kind, .string vc.key, .int .i64 vc.blob, .int .i64 vc.other, .int .i64 vc.index, .int .i64 vc.node, .int .i64 vc.size, .int .u32 vc.sum, .int .i64 vc.k, .int .i64 vc.m, .slice Pv vn.length ev'] 74)) (some ⟨w24.heap.size, 0, none⟩) [.int .i64 (b0 : Int), .int .i64 (b1 : Int), .int .i64 vc.id, .int .i64 vc.kind, .string vc.key, .int .i64 vc.blob, .int .i64 vc.other, .int .i64 vc.index, .int .i64 vc.node, .int .i64 vc.size, .int .u32 vc.sum, .int .i64 vc.k, .int .i64 vc.m, .slice Pv vn.length ev'] := at_alloc w24 #[.int .i64 (b0 : Int), .int .i64 (b1 : Int), .int .i64 vc.id, .int .i64 vc.kind, .string vc.key, .int .i64 vc.blob, .int .i64 vc.other, .int .i64 vc.index, .int .i64 vc.node, .int .i64 vc.size, .int .u32 vc.sum, .int .i64 vc.k, .int .i64 vc.m, .slice Pv vn.length ev'] 74 (0, 0)
               have ho25 := own_below ho24 hbl
               have hsz25 : w3.heap.size ≤ (w24.alloc (.cells #[.int .i64 (b0 : Int), .int .i64 (b1 : Int), .int .i64 vc.id, .int .i64 vc.kind, .string vc.key, .int .i64 vc.blob, .int .i64 vc.other, .int .i64 vc.index, .int .i64 vc.node, .int .i64 vc.size, .int .u32 vc.sum, .int .i64 vc.k, .int .i64 vc.m, .slice Pv vn.length ev'] 74)).heap.size := by simp; omega
               have HG24 := Lib.hid hgN
               have HS24 := Lib.hid (hS23.grown hgr24 (by omega))
               have HT24 := Lib.hid ((((((HTr.out.trans (Two.of1 HGR20.out)).trans (Two.of1 HGR21.out)).below (HB22.out.mono (by omega))).trans (Two.of1 HGR23.out))).new (Two.of2 (p := (w.heap.size + 1)) hgr24) (by omega))
               have HNV24 := Lib.hid (own_lower hnv24 (show w3.heap.size ≤ w22.heap.size by omega))
               clear hgN hks hvo hco hnv24 hgr24 hg23 hown23 hS23)
            | (refine wpList_load_at rfl 74 (.tmp 7) rfl rfl hat24 Try.underlying74 rfl (by kernel_rfl) ?_)
            | (refine app_vote rfl (.tmp 74) (.tmp 76) rfl w3.heap.size (v := .slice X t ev) rfl ho25 rfl (news := [.int .i64 (b0 : Int), .int .i64 (b1 : Int), .int .i64 vc.id, .int .i64 vc.kind, .string vc.key, .int .i64 vc.blob, .int .i64 vc.other, .int .i64 vc.index, .int .i64 vc.node, .int .i64 vc.size, .int .u32 vc.sum, .int .i64 vc.k, .int .i64 vc.m, .slice Pv vn.length ev']) rfl hat25 (vtc_one (s := (b0 : Int)) (b := (b1 : Int)) vc Pv vn.length ev') (by intro h; cases h) (by omega) hsz25 ?_; intro X15 ev15 w26 ho26 hb26 hg26 hcap26
               have hg26G := (hb26.block (w.heap.size + 1 + 1) (by omega)).trans ((hbl.block (w.heap.size + 1 + 1) (by omega)).trans HG24.out)
               have d22 := cell_of_row _ _ 22 _ _ (0, 0) hg26G
               have f22 := frozen_of_row _ _ 22 _ _ hg26G
               simp only [List.getElem?_toArray, List.getElem?_cons_succ, List.getElem?_cons_zero] at d22))
          have fk : ∀ v n xs, w24.ownsRow w3.heap.size 3 1 v n xs → (w26.setCell ⟨w.heap.size + 1 + 1, 22, none⟩ (.slice X15 (t + 1) ev15)).ownsRow w3.heap.size 3 1 v n xs := fun v n xs h =>
            ownsRow_setCell_below ((own_below h hbl).kept hg26.1 (own_part (own_below h hbl) ho25 (by decide))) (show w.heap.size + 1 + 1 < w3.heap.size by omega) _
          have hSF := ((HS24.out.belowB hbl (by omega)).belowB hb26 (by omega)).other (o := 22) (v := .slice X15 (t + 1) ev15) (by omega : (w.heap.size + 1) < (w.heap.size + 1 + 1))
          have hsetF := heap_setCell_same w26 (w.heap.size + 1 + 1) 22 _ _ (.slice X15 (t + 1) ev15) hg26G
          have hoF := ownsRow_setCell_below ho26 (show w.heap.size + 1 + 1 < w3.heap.size by omega) (.slice X15 (t + 1) ev15) (a := ⟨w.heap.size + 1 + 1, 22, none⟩)
          have hTF := ((HT24.out.below (hbl.mono (by omega))).below hb26).trans (Two.of2 (p := (w.heap.size + 1)) (grown_set w26 (w.heap.size + 1 + 1) 22 (.slice X15 (t + 1) ev15)))
          have hVF := VtsO.snoc (v := ((b0 : Int), (b1 : Int), vc, vn)) (cs := [.int .i64 (b0 : Int), .int .i64 (b1 : Int), .int .i64 vc.id, .int .i64 vc.kind, .string vc.key, .int .i64 vc.blob, .int .i64 vc.other, .int .i64 vc.index, .int .i64 vc.node, .int .i64 vc.size, .int .u32 vc.sum, .int .i64 vc.k, .int .i64 vc.m, .slice Pv vn.length ev']) ⟨Pv, ev', rfl, fk _ _ _ HNV24.out, hvl, HVS.out⟩ _ _ (VtsO.map fk _ _ HVO24.out)
          have hstp : StepG (numsR 1152921504606846976 2) sl [b0, b1] s21 := (StepG.nil.snoc H20.out).snoc H21.out
          exact ⟨⟨t + 1, V ++ [((b0 : Int), (b1 : Int), vc, vn)], s23, X15, ev15, us ++ [.int .i64 (b0 : Int), .int .i64 (b1 : Int), .int .i64 vc.id, .int .i64 vc.kind, .string vc.key, .int .i64 vc.blob, .int .i64 vc.other, .int .i64 vc.index, .int .i64 vc.node, .int .i64 vc.size, .int .u32 vc.sum, .int .i64 vc.k, .int .i64 vc.m, .slice Pv vn.length ev'], by omega, by go_num, by simp [hVl], Lib.hid (StepG.vote HV.out hstp H23.out), hSF, Lib.hid hsetF, hoF, Lib.hid hVF, hTF, fk _ _ _ HCO24.out⟩, by simp [intOf]; omega⟩
        · obtain rfl : nn = t := by omega
          subst hVl
          go_wp2_with fail
          have hD : Below wr.heap.size wr wr.drew := (belowN 1 : Below wr.heap.size wr (wr.drewN 1))
          have hSD := hS.belowB hD (by omega)
          have HGD := Lib.hid ((hD.block (w.heap.size + 1 + 1) (by omega)).trans HG.out)
          have HRD := Lib.hid ((hD.block w.heap.size (by omega)).trans ((hT.block w.heap.size (by omega) (by omega) (by omega)).trans HR3.out))
          have HVD := Lib.hid (own_below hvo hD)
          have HVOD := Lib.hid (VtsO.map (fun v n xs h => own_below h hD) _ _ HVO.out)
          have HCD := Lib.hid (own_below hco hD)
          have HTD := Lib.hid (hT.below (hD.mono hzr))
          have hzD : w3.heap.size ≤ wr.drew.heap.size := Nat.le_trans hzr hD.size
          refine wp_region_held_drew (S := fun _ => True) (by kernel_rfl) trivial (fun _ => ?_)
          generalize wr.drew = WD at *
          clear hD hS HG hvo HVO hco hT
          have c23D := cell_of_row _ _ 23 _ _ (0, 0) HGD.out
          simp only [List.getElem?_toArray, List.getElem?_cons_succ, List.getElem?_cons_zero] at c23D
          have HN30 := Lib.hid (rlistS_calls (most := 2000) hSD (by decide))
          clear hSD
          refine wpAnyH_take (i := 0) (v := ?_) rfl (by kernel_rfl) (by kernel_rfl) (by kernel_rfl) (fun _ _ _ h => h) (Or.inl ⟨by rfl, ?_⟩) (by assumption) ?_; rotate_left; (intro w hSw; (try dsimp only at hSw); go_simp; (first | done | (with_reducible rfl))); (try simp only [List.getElem_toArray, List.getElem_cons_succ, List.getElem_cons_zero, Act.put, List.setIfInBounds_toArray, List.set_cons_zero, List.set_cons_succ])
          refine wpAnyH_take (i := 2) (v := ?_) rfl (by kernel_rfl) (by kernel_rfl) (by kernel_rfl) (fun _ _ _ h => h) (Or.inl ⟨by rfl, ?_⟩) (by assumption) ?_; rotate_left; (intro w hSw; (try dsimp only at hSw); go_simp; (first | done | (with_reducible rfl))); (try simp only [List.getElem_toArray, List.getElem_cons_succ, List.getElem_cons_zero, Act.put, List.setIfInBounds_toArray, List.set_cons_zero, List.set_cons_succ])
          refine wpAnyH_take (i := 3) (v := ?_) rfl (by kernel_rfl) (by kernel_rfl) (by kernel_rfl) (fun _ _ _ h => h) (Or.inl ⟨by rfl, ?_⟩) (by assumption) ?_; rotate_left; (intro w hSw; (try dsimp only at hSw); go_simp; (first | done | (with_reducible rfl))); (try simp only [List.getElem_toArray, List.getElem_cons_succ, List.getElem_cons_zero, Act.put, List.setIfInBounds_toArray, List.set_cons_zero, List.set_cons_succ])
          refine wpAnyH_ready (rs := [1, 4]) (by kernel_rfl) (by simp) ?_
          refine AllReadyH.cons rfl (fun KK hKK => ?_) (AllReadyH.cons rfl (fun KK hKK => ?_) AllReadyH.nil)
          · skip
            go_simp
            go_wp2_with fail
            refine hKK.out _ _ trivial (fun _ => ?_)
            clear hKK KK
            (try simp only [List.getElem_toArray, List.getElem_cons_succ, List.getElem_cons_zero, Act.put, List.setIfInBounds_toArray, List.set_cons_zero, List.set_cons_succ])
            refine wpAnyH_ready (rs := [4]) (by kernel_rfl) (by simp) ?_; refine AllReadyH.cons rfl (fun KK hKK => ?_) AllReadyH.nil
            go_simp
            refine HN30.out.mono ?_
            rintro e w31 ⟨kk, s30, rfl, hS31, hgr31, hstep, hkk⟩
            have H30 := Lib.hid (show StepG (numR 2000) sl kk s30 from hstep)
            have hz31 := hgr31.size
            have hg31 := (hgr31.block (w.heap.size + 1 + 1) (by omega) (by intro he; injection he with he; omega)).trans HGD.out
            have c23a := cell_of_row _ _ 23 _ _ (0, 0) hg31
            simp only [List.getElem?_toArray, List.getElem?_cons_succ, List.getElem?_cons_zero] at c23a
            have HG31 := Lib.hid hg31
            have HGR31 := Lib.hid hgr31
            have HN31 := Lib.hid (rtakeS_calls hS31 kk)
            clear hstep hgr31 hg31 HN30 hS31
            go_wp2_with fail
            refine hKK.out _ _ trivial (fun _ => ?_)
            clear hKK KK
            (try simp only [List.getElem_toArray, List.getElem_cons_succ, List.getElem_cons_zero, Act.put, List.setIfInBounds_toArray, List.set_cons_zero, List.set_cons_succ])
            refine wpAnyH_ready (rs := [5]) (by kernel_rfl) (by simp) ?_; refine AllReadyH.cons rfl (fun KK hKK => ?_) AllReadyH.nil
            go_simp
            refine HN31.out.mono ?_
            rintro e w32 ⟨A32, c32, bs, s31, rfl, hA32, hfar32, hnil32, hS32, hgr32, hstep, hlt32, hcap32⟩
            have H31 := Lib.hid (show StepG (takeR kk) s30 bs s31 from hstep)
            have hz32 := hgr32.size
            have hg32 := (hgr32.block (w.heap.size + 1 + 1) (by omega) (by intro he; injection he with he; omega)).trans HG31.out
            have c23b := cell_of_row _ _ 23 _ _ (0, 0) hg32
            simp only [List.getElem?_toArray, List.getElem?_cons_succ, List.getElem?_cons_zero] at c23b
            have HG32 := Lib.hid hg32
            have HGR32 := Lib.hid hgr32
            have HS32 := Lib.hid hS32
            clear hstep hgr32 hg32 HN31 hS32 HG31
            go_wp2_with fail
            refine hKK.out _ _ trivial (fun _ => ?_)
            clear hKK KK
            (try simp only [List.getElem_toArray, List.getElem_cons_succ, List.getElem_cons_zero, Act.put, List.setIfInBounds_toArray, List.set_cons_zero, List.set_cons_succ])
            refine wpAnyH_ready (rs := [6]) (by kernel_rfl) (by simp) ?_; refine AllReadyH.cons rfl (fun KK hKK => ?_) AllReadyH.nil
            have hsz32 : w3.heap.size ≤ w32.heap.size := by omega
            refine step_app_bytes rfl (.tmp 81) (.tmp 85) rfl w3.heap.size (v := .slice none 0 0) (n := 0) (xs := []) rfl (World.ownsRow_nil _ _ _ _ : w32.ownsRow w3.heap.size 5 1 (.slice none 0 0) 0 (bys [])) rfl (news := bs) rfl hA32 hnil32 (by omega) hsz32 ?_
            intro A33 c33 w33 ho33 hb33 hg33 hcap33
            have hgq33 := hg33.1
            clear hg33
            rw [List.nil_append, Nat.zero_add] at ho33
            rw [Nat.zero_add]
            have hg33G := (hb33.block (w.heap.size + 1 + 1) (by omega)).trans HG32.out
            have c23 := cell_of_row _ _ 23 _ _ (0, 0) hg33G
            have f23 := frozen_of_row _ _ 23 _ _ hg33G
            simp only [List.getElem?_toArray, List.getElem?_cons_succ, List.getElem?_cons_zero] at c23
            clear hA32 hfar32 hnil32 c23a c23b c23D hcap33 hcap32
            refine hKK.out _ _ trivial (fun _ => ?_)
            clear hKK KK
            (try simp only [List.getElem_toArray, List.getElem_cons_succ, List.getElem_cons_zero, Act.put, List.setIfInBounds_toArray, List.set_cons_zero, List.set_cons_succ])
            refine wpAnyH_take (i := 7) (v := ?_) rfl (by kernel_rfl) (by kernel_rfl) (by kernel_rfl) (fun _ _ _ h => h) (Or.inl ⟨by rfl, ?_⟩) (by assumption) ?_; rotate_left; (intro w hSw; (try dsimp only at hSw); go_simp; (first | done | (with_reducible rfl))); (try simp only [List.getElem_toArray, List.getElem_cons_succ, List.getElem_cons_zero, Act.put, List.setIfInBounds_toArray, List.set_cons_zero, List.set_cons_succ])
            refine wpAnyH_ready (rs := [8]) (by kernel_rfl) (by simp) ?_; refine AllReadyH.cons rfl (fun KK hKK => ?_) AllReadyH.nil
            go_simp
            go_wp2_with fail
            refine hKK.out _ _ trivial (fun _ => ?_)
            clear hKK KK
            (try simp only [List.getElem_toArray, List.getElem_cons_succ, List.getElem_cons_zero, Act.put, List.setIfInBounds_toArray, List.set_cons_zero, List.set_cons_succ])
            refine wpAnyH_done (by kernel_rfl) ?_ _
            have hset34 := heap_setCell_same w33 (w.heap.size + 1 + 1) 23 _ _ (.slice A33 bs.length c33) hg33G
            have hg34 : (w33.setCell ⟨w.heap.size + 1 + 1, 23, none⟩ (.slice A33 bs.length c33)).heap[w.heap.size + 1 + 1]? = some (.cells #[.int .i64 h11m.kind, .int .i64 h11m.frm, .int .i64 h11m.to, .int .i64 h11m.ballot, .int .i64 h11m.slot, .int .i64 h11m.blob, .int .i64 h11m.index, .int .i64 h11m.epoch, .int .i64 h11m.id, .bool h11m.ok, .int .i64 h11m.cmd.id, .int .i64 h11m.cmd.kind, .string h11m.cmd.key, .int .i64 h11m.cmd.blob, .int .i64 h11m.cmd.other, .int .i64 h11m.cmd.index, .int .i64 h11m.cmd.node, .int .i64 h11m.cmd.size, .int .u32 h11m.cmd.sum, .int .i64 h11m.cmd.k, .int .i64 h11m.cmd.m, .slice P cn.length e', .slice X V.length ev, .slice A33 bs.length c33] 40 (0, 0)) := hset34
            have hr33 := (hb33.block w.heap.size (by omega)).trans ((HGR32.out.block w.heap.size (by omega) (by intro he; injection he with he; omega)).trans ((HGR31.out.block w.heap.size (by omega) (by intro he; injection he with he; omega)).trans HRD.out))
            have hr34 := (heap_setCell_other w33 ⟨w.heap.size + 1 + 1, 23, none⟩ w.heap.size (.slice A33 bs.length c33) (by simp; omega)).trans hr33
            have hS34 := (HS32.out.belowB hb33 (by omega)).other (o := 23) (v := .slice A33 bs.length c33) (by omega : (w.heap.size + 1) < (w.heap.size + 1 + 1))
            have hT34 := (((HTD.out.trans (Two.of1 HGR31.out)).trans (Two.of1 HGR32.out)).below hb33).trans (Two.of2 (p := (w.heap.size + 1)) (grown_set w33 (w.heap.size + 1 + 1) 23 (.slice A33 bs.length c33)))
            have fk : ∀ T sz v n xs, WD.ownsRow w3.heap.size T sz v n xs → T ≠ 5 → (w33.setCell ⟨w.heap.size + 1 + 1, 23, none⟩ (.slice A33 bs.length c33)).ownsRow w3.heap.size T sz v n xs := fun T sz v n xs h hT =>
              ownsRow_setCell_below (own_app (own_keep (own_keep h HGR31.out (by omega)) HGR32.out (by omega)) hgq33) (show w.heap.size + 1 + 1 < w3.heap.size by omega) _
            have ho34 := ownsRow_setCell_below ho33 (show w.heap.size + 1 + 1 < w3.heap.size by omega) (.slice A33 bs.length c33) (a := ⟨w.heap.size + 1 + 1, 23, none⟩)
            have hMO : MgOwn (w33.setCell ⟨w.heap.size + 1 + 1, 23, none⟩ (.slice A33 bs.length c33)) w3.heap.size P e' X ev A33 c33 ⟨h11m, cn, V, bs⟩ :=
              ⟨fk _ _ _ _ _ HCD.out (by decide), hcl, ⟨us, fk _ _ _ _ _ HVD.out (by decide), VtsO.map (fun v n xs h => fk _ _ v n xs h (by decide)) _ _ HVOD.out⟩, hnn, ho34, by simp only; omega, by rw [show (⟨h11m, cn, V, bs⟩ : Mg).h.cmd = cc by show h11m.cmd = cc; rw [HH11.out]; rfl]; exact HSM.out⟩
            have HP : Hid (StepG partsM (some l) ([m1, m2, m3, m4, m5, m6, m7, m8, m9], okv, (cc, cn), V.length, V, kk, bs) s31) := by
              show StepG partsM _ _ _
              unfold partsM
              exact HNUM.out.then' (H11.out.then' (H12.out.then' (H13.out.then' (HV.out.then' (H30.out.then' H31.out)))))
            have hmk : Hid (mkM [m1, m2, m3, m4, m5, m6, m7, m8, m9] okv cc cn V bs = ⟨h11m, cn, V, bs⟩) := by show _ = _; rw [HH11.out, HH10.out]; rfl
            have hz34 : w3.heap.size ≤ (w33.setCell ⟨w.heap.size + 1 + 1, 23, none⟩ (.slice A33 bs.length c33)).heap.size := by simp; have := hb33.size; omega
            clear hset34 hr33 hg33G c23 f23 ho33 ho34 hb33 fk HGR31 HGR32 HVD HVOD HCD HGD HRD HTD HNUM H11 H12 H13 HV H30 H31 HH11 HH10 HG32 HS32
            generalize w33.setCell ⟨w.heap.size + 1 + 1, 23, none⟩ (.slice A33 bs.length c33) = w34 at *
            have hatM : At w34 (some ⟨w.heap.size + 1 + 1, 0, none⟩) [.int .i64 h11m.kind, .int .i64 h11m.frm, .int .i64 h11m.to, .int .i64 h11m.ballot, .int .i64 h11m.slot, .int .i64 h11m.blob, .int .i64 h11m.index, .int .i64 h11m.epoch, .int .i64 h11m.id, .bool h11m.ok, .int .i64 h11m.cmd.id, .int .i64 h11m.cmd.kind, .string h11m.cmd.key, .int .i64 h11m.cmd.blob, .int .i64 h11m.cmd.other, .int .i64 h11m.cmd.index, .int .i64 h11m.cmd.node, .int .i64 h11m.cmd.size, .int .u32 h11m.cmd.sum, .int .i64 h11m.cmd.k, .int .i64 h11m.cmd.m, .slice P cn.length e', .slice X V.length ev, .slice A33 bs.length c33] := at_cells hg34
            have HMM := Lib.hid (rmayMsg_calls (e := ev) hMO.at)
            simp only at HMM
            have HMO := Lib.hid hMO
            have HG34 := Lib.hid hg34
            have HB34 := Lib.hid (below_two HB3.out hT34 (by omega))
            clear hMO hg34 hT34
            obtain ⟨hfc, hff⟩ := hS34.flag
            cases s31 with
            | none =>
              have hon : Hid (oneM l = none) := oneM_none HP.out (.inl rfl)
              simp only [Option.isNone_none] at hfc
              clear hS34
              go_wp2_with (first
                | (refine wpList_put_at rfl 40 (.tmp 2) (.tmp 105) rfl w.heap.size 0 [.int .i64 zeroM.kind, .int .i64 zeroM.frm, .int .i64 zeroM.to, .int .i64 zeroM.ballot, .int .i64 zeroM.slot, .int .i64 zeroM.blob, .int .i64 zeroM.index, .int .i64 zeroM.epoch, .int .i64 zeroM.id, .bool zeroM.ok, .int .i64 zeroM.cmd.id, .int .i64 zeroM.cmd.kind, .string zeroM.cmd.key, .int .i64 zeroM.cmd.blob, .int .i64 zeroM.cmd.other, .int .i64 zeroM.cmd.index, .int .i64 zeroM.cmd.node, .int .i64 zeroM.cmd.size, .int .u32 zeroM.cmd.sum, .int .i64 zeroM.cmd.k, .int .i64 zeroM.cmd.m, .slice none 0 0, .slice none 0 0, .slice none 0 0] rfl rfl 40 _ #[.int .i64 zeroM.kind, .int .i64 zeroM.frm, .int .i64 zeroM.to, .int .i64 zeroM.ballot, .int .i64 zeroM.slot, .int .i64 zeroM.blob, .int .i64 zeroM.index, .int .i64 zeroM.epoch, .int .i64 zeroM.id, .bool zeroM.ok, .int .i64 zeroM.cmd.id, .int .i64 zeroM.cmd.kind, .string zeroM.cmd.key, .int .i64 zeroM.cmd.blob, .int .i64 zeroM.cmd.other, .int .i64 zeroM.cmd.index, .int .i64 zeroM.cmd.node, .int .i64 zeroM.cmd.size, .int .u32 zeroM.cmd.sum, .int .i64 zeroM.cmd.k, .int .i64 zeroM.cmd.m, .slice none 0 0, .slice none 0 0, .slice none 0 0] hr34 (by kernel_rfl) (by show (24 : Nat) ≤ 24; decide) (msg_one zeroM none none none 0 0 0 0 0 0) rfl ?_; intro w40 hgr40 hg40))
              refine bodyPost_ret (results_row_tmp rfl _ _ w.heap.size 40 #[.int .i64 zeroM.kind, .int .i64 zeroM.frm, .int .i64 zeroM.to, .int .i64 zeroM.ballot, .int .i64 zeroM.slot, .int .i64 zeroM.blob, .int .i64 zeroM.index, .int .i64 zeroM.epoch, .int .i64 zeroM.id, .bool zeroM.ok, .int .i64 zeroM.cmd.id, .int .i64 zeroM.cmd.kind, .string zeroM.cmd.key, .int .i64 zeroM.cmd.blob, .int .i64 zeroM.cmd.other, .int .i64 zeroM.cmd.index, .int .i64 zeroM.cmd.node, .int .i64 zeroM.cmd.size, .int .u32 zeroM.cmd.sum, .int .i64 zeroM.cmd.k, .int .i64 zeroM.cmd.m, .slice none 0 0, .slice none 0 0, .slice none 0 0] (0, 0) _ rfl hg40 Try.underlying40 rfl (by kernel_rfl)) rfl ?_
              exact ⟨none, 0, none, 0, none, 0, by rw [hon.out]; rfl, HB34.out.trans ⟨hgr40.os, hgr40.tape, hgr40.output, hgr40.size, fun k hk => hgr40.block k (by have := (HB34.out).size; omega) (by intro he; injection he with he; omega)⟩, by rw [hon.out]; exact mgown_zero _ _⟩
            | some rr =>
              simp only [Option.isNone_some] at hfc
              obtain ⟨A5, c5, hR5⟩ := hS34
              have hb0 := cell_of_row _ _ 0 _ _ (0, 0) hR5.hd
              simp only [List.getElem?_toArray, List.getElem?_cons_succ, List.getElem?_cons_zero] at hb0
              clear hR5
              cases rr with
              | cons y rr =>
                have hon : Hid (oneM l = none) := oneM_none HP.out (.inr (.inl ⟨y, rr, rfl⟩))
                simp only [List.length_cons] at hb0
                have hpos : (0 : Int) < ((rr.length + 1 : Nat) : Int) := by omega
                go_wp2_with (first
                  | (refine wpList_put_at rfl 40 (.tmp 2) (.tmp 105) rfl w.heap.size 0 [.int .i64 zeroM.kind, .int .i64 zeroM.frm, .int .i64 zeroM.to, .int .i64 zeroM.ballot, .int .i64 zeroM.slot, .int .i64 zeroM.blob, .int .i64 zeroM.index, .int .i64 zeroM.epoch, .int .i64 zeroM.id, .bool zeroM.ok, .int .i64 zeroM.cmd.id, .int .i64 zeroM.cmd.kind, .string zeroM.cmd.key, .int .i64 zeroM.cmd.blob, .int .i64 zeroM.cmd.other, .int .i64 zeroM.cmd.index, .int .i64 zeroM.cmd.node, .int .i64 zeroM.cmd.size, .int .u32 zeroM.cmd.sum, .int .i64 zeroM.cmd.k, .int .i64 zeroM.cmd.m, .slice none 0 0, .slice none 0 0, .slice none 0 0] rfl rfl 40 _ #[.int .i64 zeroM.kind, .int .i64 zeroM.frm, .int .i64 zeroM.to, .int .i64 zeroM.ballot, .int .i64 zeroM.slot, .int .i64 zeroM.blob, .int .i64 zeroM.index, .int .i64 zeroM.epoch, .int .i64 zeroM.id, .bool zeroM.ok, .int .i64 zeroM.cmd.id, .int .i64 zeroM.cmd.kind, .string zeroM.cmd.key, .int .i64 zeroM.cmd.blob, .int .i64 zeroM.cmd.other, .int .i64 zeroM.cmd.index, .int .i64 zeroM.cmd.node, .int .i64 zeroM.cmd.size, .int .u32 zeroM.cmd.sum, .int .i64 zeroM.cmd.k, .int .i64 zeroM.cmd.m, .slice none 0 0, .slice none 0 0, .slice none 0 0] hr34 (by kernel_rfl) (by show (24 : Nat) ≤ 24; decide) (msg_one zeroM none none none 0 0 0 0 0 0) rfl ?_; intro w40 hgr40 hg40))
                refine bodyPost_ret (results_row_tmp rfl _ _ w.heap.size 40 #[.int .i64 zeroM.kind, .int .i64 zeroM.frm, .int .i64 zeroM.to, .int .i64 zeroM.ballot, .int .i64 zeroM.slot, .int .i64 zeroM.blob, .int .i64 zeroM.index, .int .i64 zeroM.epoch, .int .i64 zeroM.id, .bool zeroM.ok, .int .i64 zeroM.cmd.id, .int .i64 zeroM.cmd.kind, .string zeroM.cmd.key, .int .i64 zeroM.cmd.blob, .int .i64 zeroM.cmd.other, .int .i64 zeroM.cmd.index, .int .i64 zeroM.cmd.node, .int .i64 zeroM.cmd.size, .int .u32 zeroM.cmd.sum, .int .i64 zeroM.cmd.k, .int .i64 zeroM.cmd.m, .slice none 0 0, .slice none 0 0, .slice none 0 0] (0, 0) _ rfl hg40 Try.underlying40 rfl (by kernel_rfl)) rfl ?_
                exact ⟨none, 0, none, 0, none, 0, by rw [hon.out]; rfl, HB34.out.trans ⟨hgr40.os, hgr40.tape, hgr40.output, hgr40.size, fun k hk => hgr40.block k (by have := (HB34.out).size; omega) (by intro he; injection he with he; omega)⟩, by rw [hon.out]; exact mgown_zero _ _⟩
              | nil =>
                simp only [List.length_nil] at hb0
                go_wp2_with (refine load_atG (by rfl) 40 (.tmp 5) rfl rfl hatM Try.underlying40 rfl (by kernel_rfl) ?_)
                refine HMM.out.mono ?_
                rintro e w35 ⟨rfl, hb35⟩
                have hz35 := hb35.size
                have hr35 := (hb35.block w.heap.size (by omega)).trans hr34
                have hatN : At w35 (some ⟨w.heap.size + 1 + 1, 0, none⟩) [.int .i64 h11m.kind, .int .i64 h11m.frm, .int .i64 h11m.to, .int .i64 h11m.ballot, .int .i64 h11m.slot, .int .i64 h11m.blob, .int .i64 h11m.index, .int .i64 h11m.epoch, .int .i64 h11m.id, .bool h11m.ok, .int .i64 h11m.cmd.id, .int .i64 h11m.cmd.kind, .string h11m.cmd.key, .int .i64 h11m.cmd.blob, .int .i64 h11m.cmd.other, .int .i64 h11m.cmd.index, .int .i64 h11m.cmd.node, .int .i64 h11m.cmd.size, .int .u32 h11m.cmd.sum, .int .i64 h11m.cmd.k, .int .i64 h11m.cmd.m, .slice P cn.length e', .slice X V.length ev, .slice A33 bs.length c33] := at_cells ((hb35.block (w.heap.size + 1 + 1) (by omega)).trans HG34.out)
                have HB35 := Lib.hid (HB34.out.trans (hb35.mono (by omega)))
                have HMO35 := Lib.hid (HMO.out.map (fun T sz v n xs h => own_below h hb35))
                clear HMM hatM hb35 HB34 HMO HG34
                generalize hmay : mayM ⟨h11m, cn, V, bs⟩ = may at *
                have HMAY := Lib.hid hmay
                clear hmay
                cases may with
                | false =>
                  have hon : Hid (oneM l = none) := oneM_none HP.out (.inr (.inr (by rw [hmk.out]; exact HMAY.out)))
                  go_wp2_with (first
                    | (refine wpList_put_at rfl 40 (.tmp 2) (.tmp 105) rfl w.heap.size 0 [.int .i64 zeroM.kind, .int .i64 zeroM.frm, .int .i64 zeroM.to, .int .i64 zeroM.ballot, .int .i64 zeroM.slot, .int .i64 zeroM.blob, .int .i64 zeroM.index, .int .i64 zeroM.epoch, .int .i64 zeroM.id, .bool zeroM.ok, .int .i64 zeroM.cmd.id, .int .i64 zeroM.cmd.kind, .string zeroM.cmd.key, .int .i64 zeroM.cmd.blob, .int .i64 zeroM.cmd.other, .int .i64 zeroM.cmd.index, .int .i64 zeroM.cmd.node, .int .i64 zeroM.cmd.size, .int .u32 zeroM.cmd.sum, .int .i64 zeroM.cmd.k, .int .i64 zeroM.cmd.m, .slice none 0 0, .slice none 0 0, .slice none 0 0] rfl rfl 40 _ #[.int .i64 zeroM.kind, .int .i64 zeroM.frm, .int .i64 zeroM.to, .int .i64 zeroM.ballot, .int .i64 zeroM.slot, .int .i64 zeroM.blob, .int .i64 zeroM.index, .int .i64 zeroM.epoch, .int .i64 zeroM.id, .bool zeroM.ok, .int .i64 zeroM.cmd.id, .int .i64 zeroM.cmd.kind, .string zeroM.cmd.key, .int .i64 zeroM.cmd.blob, .int .i64 zeroM.cmd.other, .int .i64 zeroM.cmd.index, .int .i64 zeroM.cmd.node, .int .i64 zeroM.cmd.size, .int .u32 zeroM.cmd.sum, .int .i64 zeroM.cmd.k, .int .i64 zeroM.cmd.m, .slice none 0 0, .slice none 0 0, .slice none 0 0] hr35 (by kernel_rfl) (by show (24 : Nat) ≤ 24; decide) (msg_one zeroM none none none 0 0 0 0 0 0) rfl ?_; intro w40 hgr40 hg40))
                  refine bodyPost_ret (results_row_tmp rfl _ _ w.heap.size 40 #[.int .i64 zeroM.kind, .int .i64 zeroM.frm, .int .i64 zeroM.to, .int .i64 zeroM.ballot, .int .i64 zeroM.slot, .int .i64 zeroM.blob, .int .i64 zeroM.index, .int .i64 zeroM.epoch, .int .i64 zeroM.id, .bool zeroM.ok, .int .i64 zeroM.cmd.id, .int .i64 zeroM.cmd.kind, .string zeroM.cmd.key, .int .i64 zeroM.cmd.blob, .int .i64 zeroM.cmd.other, .int .i64 zeroM.cmd.index, .int .i64 zeroM.cmd.node, .int .i64 zeroM.cmd.size, .int .u32 zeroM.cmd.sum, .int .i64 zeroM.cmd.k, .int .i64 zeroM.cmd.m, .slice none 0 0, .slice none 0 0, .slice none 0 0] (0, 0) _ rfl hg40 Try.underlying40 rfl (by kernel_rfl)) rfl ?_
                  exact ⟨none, 0, none, 0, none, 0, by rw [hon.out]; rfl, HB35.out.trans ⟨hgr40.os, hgr40.tape, hgr40.output, hgr40.size, fun k hk => hgr40.block k (by have := (HB35.out).size; omega) (by intro he; injection he with he; omega)⟩, by rw [hon.out]; exact mgown_zero _ _⟩
                | true =>
                  have hon : Hid (oneM l = some ⟨h11m, cn, V, bs⟩) := by
                    have := oneM_good HP.out (by rw [hmk.out]; exact HMAY.out)
                    rw [hmk.out] at this
                    exact this
                  go_wp2_with (first
                    | (refine wpList_load_at rfl 40 (.tmp 5) rfl rfl hatN Try.underlying40 rfl (by kernel_rfl) ?_)
                    | (refine wpList_put_at rfl 40 (.tmp 2) (.tmp 106) rfl w.heap.size 0 [.int .i64 h11m.kind, .int .i64 h11m.frm, .int .i64 h11m.to, .int .i64 h11m.ballot, .int .i64 h11m.slot, .int .i64 h11m.blob, .int .i64 h11m.index, .int .i64 h11m.epoch, .int .i64 h11m.id, .bool h11m.ok, .int .i64 h11m.cmd.id, .int .i64 h11m.cmd.kind, .string h11m.cmd.key, .int .i64 h11m.cmd.blob, .int .i64 h11m.cmd.other, .int .i64 h11m.cmd.index, .int .i64 h11m.cmd.node, .int .i64 h11m.cmd.size, .int .u32 h11m.cmd.sum, .int .i64 h11m.cmd.k, .int .i64 h11m.cmd.m, .slice P cn.length e', .slice X V.length ev, .slice A33 bs.length c33] rfl rfl 40 _ #[.int .i64 h11m.kind, .int .i64 h11m.frm, .int .i64 h11m.to, .int .i64 h11m.ballot, .int .i64 h11m.slot, .int .i64 h11m.blob, .int .i64 h11m.index, .int .i64 h11m.epoch, .int .i64 h11m.id, .bool h11m.ok, .int .i64 h11m.cmd.id, .int .i64 h11m.cmd.kind, .string h11m.cmd.key, .int .i64 h11m.cmd.blob, .int .i64 h11m.cmd.other, .int .i64 h11m.cmd.index, .int .i64 h11m.cmd.node, .int .i64 h11m.cmd.size, .int .u32 h11m.cmd.sum, .int .i64 h11m.cmd.k, .int .i64 h11m.cmd.m, .slice P cn.length e', .slice X V.length ev, .slice A33 bs.length c33] hr35 (by kernel_rfl) (by show (24 : Nat) ≤ 24; decide) (msg_one h11m P X A33 cn.length e' V.length ev bs.length c33) rfl ?_; intro w40 hgr40 hg40))
                  refine bodyPost_ret (results_row_tmp rfl _ _ w.heap.size 40 #[.int .i64 h11m.kind, .int .i64 h11m.frm, .int .i64 h11m.to, .int .i64 h11m.ballot, .int .i64 h11m.slot, .int .i64 h11m.blob, .int .i64 h11m.index, .int .i64 h11m.epoch, .int .i64 h11m.id, .bool h11m.ok, .int .i64 h11m.cmd.id, .int .i64 h11m.cmd.kind, .string h11m.cmd.key, .int .i64 h11m.cmd.blob, .int .i64 h11m.cmd.other, .int .i64 h11m.cmd.index, .int .i64 h11m.cmd.node, .int .i64 h11m.cmd.size, .int .u32 h11m.cmd.sum, .int .i64 h11m.cmd.k, .int .i64 h11m.cmd.m, .slice P cn.length e', .slice X V.length ev, .slice A33 bs.length c33] (0, 0) _ rfl hg40 Try.underlying40 rfl (by kernel_rfl)) rfl ?_
                  exact ⟨P, e', X, ev, A33, c33, by rw [hon.out]; rfl, HB35.out.trans ⟨hgr40.os, hgr40.tape, hgr40.output, hgr40.size, fun k hk => hgr40.block k (by have := HB35.out.size; omega) (by intro he; injection he with he; omega)⟩, by rw [hon.out]; exact (HMO35.out.map (fun T sz v n xs h => own_keep h hgr40 (by omega))).lower (by omega)⟩
          · go_simp
            refine HN30.out.mono ?_
            rintro e w31 ⟨kk, s30, rfl, hS31, hgr31, hstep, hkk⟩
            have H30 := Lib.hid (show StepG (numR 2000) sl kk s30 from hstep)
            have hz31 := hgr31.size
            have hg31 := (hgr31.block (w.heap.size + 1 + 1) (by omega) (by intro he; injection he with he; omega)).trans HGD.out
            have c23a := cell_of_row _ _ 23 _ _ (0, 0) hg31
            simp only [List.getElem?_toArray, List.getElem?_cons_succ, List.getElem?_cons_zero] at c23a
            have HG31 := Lib.hid hg31
            have HGR31 := Lib.hid hgr31
            have HN31 := Lib.hid (rtakeS_calls hS31 kk)
            clear hstep hgr31 hg31 HN30 hS31
            go_wp2_with fail
            refine hKK.out _ _ trivial (fun _ => ?_)
            clear hKK KK
            (try simp only [List.getElem_toArray, List.getElem_cons_succ, List.getElem_cons_zero, Act.put, List.setIfInBounds_toArray, List.set_cons_zero, List.set_cons_succ])
            refine wpAnyH_ready (rs := [1, 5]) (by kernel_rfl) (by simp) ?_
            refine AllReadyH.cons rfl (fun KK hKK => ?_) (AllReadyH.cons rfl (fun KK hKK => ?_) AllReadyH.nil)
            · skip
              go_simp
              go_wp2_with fail
              refine hKK.out _ _ trivial (fun _ => ?_)
              clear hKK KK
              (try simp only [List.getElem_toArray, List.getElem_cons_succ, List.getElem_cons_zero, Act.put, List.setIfInBounds_toArray, List.set_cons_zero, List.set_cons_succ])
              refine wpAnyH_ready (rs := [5]) (by kernel_rfl) (by simp) ?_; refine AllReadyH.cons rfl (fun KK hKK => ?_) AllReadyH.nil
              go_simp
              refine HN31.out.mono ?_
              rintro e w32 ⟨A32, c32, bs, s31, rfl, hA32, hfar32, hnil32, hS32, hgr32, hstep, hlt32, hcap32⟩
              have H31 := Lib.hid (show StepG (takeR kk) s30 bs s31 from hstep)
              have hz32 := hgr32.size
              have hg32 := (hgr32.block (w.heap.size + 1 + 1) (by omega) (by intro he; injection he with he; omega)).trans HG31.out
              have c23b := cell_of_row _ _ 23 _ _ (0, 0) hg32
              simp only [List.getElem?_toArray, List.getElem?_cons_succ, List.getElem?_cons_zero] at c23b
              have HG32 := Lib.hid hg32
              have HGR32 := Lib.hid hgr32
              have HS32 := Lib.hid hS32
              clear hstep hgr32 hg32 HN31 hS32 HG31
              go_wp2_with fail
              refine hKK.out _ _ trivial (fun _ => ?_)
              clear hKK KK
              (try simp only [List.getElem_toArray, List.getElem_cons_succ, List.getElem_cons_zero, Act.put, List.setIfInBounds_toArray, List.set_cons_zero, List.set_cons_succ])
              refine wpAnyH_ready (rs := [6]) (by kernel_rfl) (by simp) ?_; refine AllReadyH.cons rfl (fun KK hKK => ?_) AllReadyH.nil
              have hsz32 : w3.heap.size ≤ w32.heap.size := by omega
              refine step_app_bytes rfl (.tmp 81) (.tmp 85) rfl w3.heap.size (v := .slice none 0 0) (n := 0) (xs := []) rfl (World.ownsRow_nil _ _ _ _ : w32.ownsRow w3.heap.size 5 1 (.slice none 0 0) 0 (bys [])) rfl (news := bs) rfl hA32 hnil32 (by omega) hsz32 ?_
              intro A33 c33 w33 ho33 hb33 hg33 hcap33
              have hgq33 := hg33.1
              clear hg33
              rw [List.nil_append, Nat.zero_add] at ho33
              rw [Nat.zero_add]
              have hg33G := (hb33.block (w.heap.size + 1 + 1) (by omega)).trans HG32.out
              have c23 := cell_of_row _ _ 23 _ _ (0, 0) hg33G
              have f23 := frozen_of_row _ _ 23 _ _ hg33G
              simp only [List.getElem?_toArray, List.getElem?_cons_succ, List.getElem?_cons_zero] at c23
              clear hA32 hfar32 hnil32 c23a c23b c23D hcap33 hcap32
              refine hKK.out _ _ trivial (fun _ => ?_)
              clear hKK KK
              (try simp only [List.getElem_toArray, List.getElem_cons_succ, List.getElem_cons_zero, Act.put, List.setIfInBounds_toArray, List.set_cons_zero, List.set_cons_succ])
              refine wpAnyH_take (i := 7) (v := ?_) rfl (by kernel_rfl) (by kernel_rfl) (by kernel_rfl) (fun _ _ _ h => h) (Or.inl ⟨by rfl, ?_⟩) (by assumption) ?_; rotate_left; (intro w hSw; (try dsimp only at hSw); go_simp; (first | done | (with_reducible rfl))); (try simp only [List.getElem_toArray, List.getElem_cons_succ, List.getElem_cons_zero, Act.put, List.setIfInBounds_toArray, List.set_cons_zero, List.set_cons_succ])
              refine wpAnyH_ready (rs := [8]) (by kernel_rfl) (by simp) ?_; refine AllReadyH.cons rfl (fun KK hKK => ?_) AllReadyH.nil
              go_simp
              go_wp2_with fail
              refine hKK.out _ _ trivial (fun _ => ?_)
              clear hKK KK
              (try simp only [List.getElem_toArray, List.getElem_cons_succ, List.getElem_cons_zero, Act.put, List.setIfInBounds_toArray, List.set_cons_zero, List.set_cons_succ])
              refine wpAnyH_done (by kernel_rfl) ?_ _
              have hset34 := heap_setCell_same w33 (w.heap.size + 1 + 1) 23 _ _ (.slice A33 bs.length c33) hg33G
              have hg34 : (w33.setCell ⟨w.heap.size + 1 + 1, 23, none⟩ (.slice A33 bs.length c33)).heap[w.heap.size + 1 + 1]? = some (.cells #[.int .i64 h11m.kind, .int .i64 h11m.frm, .int .i64 h11m.to, .int .i64 h11m.ballot, .int .i64 h11m.slot, .int .i64 h11m.blob, .int .i64 h11m.index, .int .i64 h11m.epoch, .int .i64 h11m.id, .bool h11m.ok, .int .i64 h11m.cmd.id, .int .i64 h11m.cmd.kind, .string h11m.cmd.key, .int .i64 h11m.cmd.blob, .int .i64 h11m.cmd.other, .int .i64 h11m.cmd.index, .int .i64 h11m.cmd.node, .int .i64 h11m.cmd.size, .int .u32 h11m.cmd.sum, .int .i64 h11m.cmd.k, .int .i64 h11m.cmd.m, .slice P cn.length e', .slice X V.length ev, .slice A33 bs.length c33] 40 (0, 0)) := hset34
              have hr33 := (hb33.block w.heap.size (by omega)).trans ((HGR32.out.block w.heap.size (by omega) (by intro he; injection he with he; omega)).trans ((HGR31.out.block w.heap.size (by omega) (by intro he; injection he with he; omega)).trans HRD.out))
              have hr34 := (heap_setCell_other w33 ⟨w.heap.size + 1 + 1, 23, none⟩ w.heap.size (.slice A33 bs.length c33) (by simp; omega)).trans hr33
              have hS34 := (HS32.out.belowB hb33 (by omega)).other (o := 23) (v := .slice A33 bs.length c33) (by omega : (w.heap.size + 1) < (w.heap.size + 1 + 1))
              have hT34 := (((HTD.out.trans (Two.of1 HGR31.out)).trans (Two.of1 HGR32.out)).below hb33).trans (Two.of2 (p := (w.heap.size + 1)) (grown_set w33 (w.heap.size + 1 + 1) 23 (.slice A33 bs.length c33)))
              have fk : ∀ T sz v n xs, WD.ownsRow w3.heap.size T sz v n xs → T ≠ 5 → (w33.setCell ⟨w.heap.size + 1 + 1, 23, none⟩ (.slice A33 bs.length c33)).ownsRow w3.heap.size T sz v n xs := fun T sz v n xs h hT =>
                ownsRow_setCell_below (own_app (own_keep (own_keep h HGR31.out (by omega)) HGR32.out (by omega)) hgq33) (show w.heap.size + 1 + 1 < w3.heap.size by omega) _
              have ho34 := ownsRow_setCell_below ho33 (show w.heap.size + 1 + 1 < w3.heap.size by omega) (.slice A33 bs.length c33) (a := ⟨w.heap.size + 1 + 1, 23, none⟩)
              have hMO : MgOwn (w33.setCell ⟨w.heap.size + 1 + 1, 23, none⟩ (.slice A33 bs.length c33)) w3.heap.size P e' X ev A33 c33 ⟨h11m, cn, V, bs⟩ :=
                ⟨fk _ _ _ _ _ HCD.out (by decide), hcl, ⟨us, fk _ _ _ _ _ HVD.out (by decide), VtsO.map (fun v n xs h => fk _ _ v n xs h (by decide)) _ _ HVOD.out⟩, hnn, ho34, by simp only; omega, by rw [show (⟨h11m, cn, V, bs⟩ : Mg).h.cmd = cc by show h11m.cmd = cc; rw [HH11.out]; rfl]; exact HSM.out⟩
              have HP : Hid (StepG partsM (some l) ([m1, m2, m3, m4, m5, m6, m7, m8, m9], okv, (cc, cn), V.length, V, kk, bs) s31) := by
                show StepG partsM _ _ _
                unfold partsM
                exact HNUM.out.then' (H11.out.then' (H12.out.then' (H13.out.then' (HV.out.then' (H30.out.then' H31.out)))))
              have hmk : Hid (mkM [m1, m2, m3, m4, m5, m6, m7, m8, m9] okv cc cn V bs = ⟨h11m, cn, V, bs⟩) := by show _ = _; rw [HH11.out, HH10.out]; rfl
              have hz34 : w3.heap.size ≤ (w33.setCell ⟨w.heap.size + 1 + 1, 23, none⟩ (.slice A33 bs.length c33)).heap.size := by simp; have := hb33.size; omega
              clear hset34 hr33 hg33G c23 f23 ho33 ho34 hb33 fk HGR31 HGR32 HVD HVOD HCD HGD HRD HTD HNUM H11 H12 H13 HV H30 H31 HH11 HH10 HG32 HS32
              generalize w33.setCell ⟨w.heap.size + 1 + 1, 23, none⟩ (.slice A33 bs.length c33) = w34 at *
              have hatM : At w34 (some ⟨w.heap.size + 1 + 1, 0, none⟩) [.int .i64 h11m.kind, .int .i64 h11m.frm, .int .i64 h11m.to, .int .i64 h11m.ballot, .int .i64 h11m.slot, .int .i64 h11m.blob, .int .i64 h11m.index, .int .i64 h11m.epoch, .int .i64 h11m.id, .bool h11m.ok, .int .i64 h11m.cmd.id, .int .i64 h11m.cmd.kind, .string h11m.cmd.key, .int .i64 h11m.cmd.blob, .int .i64 h11m.cmd.other, .int .i64 h11m.cmd.index, .int .i64 h11m.cmd.node, .int .i64 h11m.cmd.size, .int .u32 h11m.cmd.sum, .int .i64 h11m.cmd.k, .int .i64 h11m.cmd.m, .slice P cn.length e', .slice X V.length ev, .slice A33 bs.length c33] := at_cells hg34
              have HMM := Lib.hid (rmayMsg_calls (e := ev) hMO.at)
              simp only at HMM
              have HMO := Lib.hid hMO
              have HG34 := Lib.hid hg34
              have HB34 := Lib.hid (below_two HB3.out hT34 (by omega))
              clear hMO hg34 hT34
              obtain ⟨hfc, hff⟩ := hS34.flag
              cases s31 with
              | none =>
                have hon : Hid (oneM l = none) := oneM_none HP.out (.inl rfl)
                simp only [Option.isNone_none] at hfc
                clear hS34
                go_wp2_with (first
                  | (refine wpList_put_at rfl 40 (.tmp 2) (.tmp 105) rfl w.heap.size 0 [.int .i64 zeroM.kind, .int .i64 zeroM.frm, .int .i64 zeroM.to, .int .i64 zeroM.ballot, .int .i64 zeroM.slot, .int .i64 zeroM.blob, .int .i64 zeroM.index, .int .i64 zeroM.epoch, .int .i64 zeroM.id, .bool zeroM.ok, .int .i64 zeroM.cmd.id, .int .i64 zeroM.cmd.kind, .string zeroM.cmd.key, .int .i64 zeroM.cmd.blob, .int .i64 zeroM.cmd.other, .int .i64 zeroM.cmd.index, .int .i64 zeroM.cmd.node, .int .i64 zeroM.cmd.size, .int .u32 zeroM.cmd.sum, .int .i64 zeroM.cmd.k, .int .i64 zeroM.cmd.m, .slice none 0 0, .slice none 0 0, .slice none 0 0] rfl rfl 40 _ #[.int .i64 zeroM.kind, .int .i64 zeroM.frm, .int .i64 zeroM.to, .int .i64 zeroM.ballot, .int .i64 zeroM.slot, .int .i64 zeroM.blob, .int .i64 zeroM.index, .int .i64 zeroM.epoch, .int .i64 zeroM.id, .bool zeroM.ok, .int .i64 zeroM.cmd.id, .int .i64 zeroM.cmd.kind, .string zeroM.cmd.key, .int .i64 zeroM.cmd.blob, .int .i64 zeroM.cmd.other, .int .i64 zeroM.cmd.index, .int .i64 zeroM.cmd.node, .int .i64 zeroM.cmd.size, .int .u32 zeroM.cmd.sum, .int .i64 zeroM.cmd.k, .int .i64 zeroM.cmd.m, .slice none 0 0, .slice none 0 0, .slice none 0 0] hr34 (by kernel_rfl) (by show (24 : Nat) ≤ 24; decide) (msg_one zeroM none none none 0 0 0 0 0 0) rfl ?_; intro w40 hgr40 hg40))
                refine bodyPost_ret (results_row_tmp rfl _ _ w.heap.size 40 #[.int .i64 zeroM.kind, .int .i64 zeroM.frm, .int .i64 zeroM.to, .int .i64 zeroM.ballot, .int .i64 zeroM.slot, .int .i64 zeroM.blob, .int .i64 zeroM.index, .int .i64 zeroM.epoch, .int .i64 zeroM.id, .bool zeroM.ok, .int .i64 zeroM.cmd.id, .int .i64 zeroM.cmd.kind, .string zeroM.cmd.key, .int .i64 zeroM.cmd.blob, .int .i64 zeroM.cmd.other, .int .i64 zeroM.cmd.index, .int .i64 zeroM.cmd.node, .int .i64 zeroM.cmd.size, .int .u32 zeroM.cmd.sum, .int .i64 zeroM.cmd.k, .int .i64 zeroM.cmd.m, .slice none 0 0, .slice none 0 0, .slice none 0 0] (0, 0) _ rfl hg40 Try.underlying40 rfl (by kernel_rfl)) rfl ?_
                exact ⟨none, 0, none, 0, none, 0, by rw [hon.out]; rfl, HB34.out.trans ⟨hgr40.os, hgr40.tape, hgr40.output, hgr40.size, fun k hk => hgr40.block k (by have := (HB34.out).size; omega) (by intro he; injection he with he; omega)⟩, by rw [hon.out]; exact mgown_zero _ _⟩
              | some rr =>
                simp only [Option.isNone_some] at hfc
                obtain ⟨A5, c5, hR5⟩ := hS34
                have hb0 := cell_of_row _ _ 0 _ _ (0, 0) hR5.hd
                simp only [List.getElem?_toArray, List.getElem?_cons_succ, List.getElem?_cons_zero] at hb0
                clear hR5
                cases rr with
                | cons y rr =>
                  have hon : Hid (oneM l = none) := oneM_none HP.out (.inr (.inl ⟨y, rr, rfl⟩))
                  simp only [List.length_cons] at hb0
                  have hpos : (0 : Int) < ((rr.length + 1 : Nat) : Int) := by omega
                  go_wp2_with (first
                    | (refine wpList_put_at rfl 40 (.tmp 2) (.tmp 105) rfl w.heap.size 0 [.int .i64 zeroM.kind, .int .i64 zeroM.frm, .int .i64 zeroM.to, .int .i64 zeroM.ballot, .int .i64 zeroM.slot, .int .i64 zeroM.blob, .int .i64 zeroM.index, .int .i64 zeroM.epoch, .int .i64 zeroM.id, .bool zeroM.ok, .int .i64 zeroM.cmd.id, .int .i64 zeroM.cmd.kind, .string zeroM.cmd.key, .int .i64 zeroM.cmd.blob, .int .i64 zeroM.cmd.other, .int .i64 zeroM.cmd.index, .int .i64 zeroM.cmd.node, .int .i64 zeroM.cmd.size, .int .u32 zeroM.cmd.sum, .int .i64 zeroM.cmd.k, .int .i64 zeroM.cmd.m, .slice none 0 0, .slice none 0 0, .slice none 0 0] rfl rfl 40 _ #[.int .i64 zeroM.kind, .int .i64 zeroM.frm, .int .i64 zeroM.to, .int .i64 zeroM.ballot, .int .i64 zeroM.slot, .int .i64 zeroM.blob, .int .i64 zeroM.index, .int .i64 zeroM.epoch, .int .i64 zeroM.id, .bool zeroM.ok, .int .i64 zeroM.cmd.id, .int .i64 zeroM.cmd.kind, .string zeroM.cmd.key, .int .i64 zeroM.cmd.blob, .int .i64 zeroM.cmd.other, .int .i64 zeroM.cmd.index, .int .i64 zeroM.cmd.node, .int .i64 zeroM.cmd.size, .int .u32 zeroM.cmd.sum, .int .i64 zeroM.cmd.k, .int .i64 zeroM.cmd.m, .slice none 0 0, .slice none 0 0, .slice none 0 0] hr34 (by kernel_rfl) (by show (24 : Nat) ≤ 24; decide) (msg_one zeroM none none none 0 0 0 0 0 0) rfl ?_; intro w40 hgr40 hg40))
                  refine bodyPost_ret (results_row_tmp rfl _ _ w.heap.size 40 #[.int .i64 zeroM.kind, .int .i64 zeroM.frm, .int .i64 zeroM.to, .int .i64 zeroM.ballot, .int .i64 zeroM.slot, .int .i64 zeroM.blob, .int .i64 zeroM.index, .int .i64 zeroM.epoch, .int .i64 zeroM.id, .bool zeroM.ok, .int .i64 zeroM.cmd.id, .int .i64 zeroM.cmd.kind, .string zeroM.cmd.key, .int .i64 zeroM.cmd.blob, .int .i64 zeroM.cmd.other, .int .i64 zeroM.cmd.index, .int .i64 zeroM.cmd.node, .int .i64 zeroM.cmd.size, .int .u32 zeroM.cmd.sum, .int .i64 zeroM.cmd.k, .int .i64 zeroM.cmd.m, .slice none 0 0, .slice none 0 0, .slice none 0 0] (0, 0) _ rfl hg40 Try.underlying40 rfl (by kernel_rfl)) rfl ?_
                  exact ⟨none, 0, none, 0, none, 0, by rw [hon.out]; rfl, HB34.out.trans ⟨hgr40.os, hgr40.tape, hgr40.output, hgr40.size, fun k hk => hgr40.block k (by have := (HB34.out).size; omega) (by intro he; injection he with he; omega)⟩, by rw [hon.out]; exact mgown_zero _ _⟩
                | nil =>
                  simp only [List.length_nil] at hb0
                  go_wp2_with (refine load_atG (by rfl) 40 (.tmp 5) rfl rfl hatM Try.underlying40 rfl (by kernel_rfl) ?_)
                  refine HMM.out.mono ?_
                  rintro e w35 ⟨rfl, hb35⟩
                  have hz35 := hb35.size
                  have hr35 := (hb35.block w.heap.size (by omega)).trans hr34
                  have hatN : At w35 (some ⟨w.heap.size + 1 + 1, 0, none⟩) [.int .i64 h11m.kind, .int .i64 h11m.frm, .int .i64 h11m.to, .int .i64 h11m.ballot, .int .i64 h11m.slot, .int .i64 h11m.blob, .int .i64 h11m.index, .int .i64 h11m.epoch, .int .i64 h11m.id, .bool h11m.ok, .int .i64 h11m.cmd.id, .int .i64 h11m.cmd.kind, .string h11m.cmd.key, .int .i64 h11m.cmd.blob, .int .i64 h11m.cmd.other, .int .i64 h11m.cmd.index, .int .i64 h11m.cmd.node, .int .i64 h11m.cmd.size, .int .u32 h11m.cmd.sum, .int .i64 h11m.cmd.k, .int .i64 h11m.cmd.m, .slice P cn.length e', .slice X V.length ev, .slice A33 bs.length c33] := at_cells ((hb35.block (w.heap.size + 1 + 1) (by omega)).trans HG34.out)
                  have HB35 := Lib.hid (HB34.out.trans (hb35.mono (by omega)))
                  have HMO35 := Lib.hid (HMO.out.map (fun T sz v n xs h => own_below h hb35))
                  clear HMM hatM hb35 HB34 HMO HG34
                  generalize hmay : mayM ⟨h11m, cn, V, bs⟩ = may at *
                  have HMAY := Lib.hid hmay
                  clear hmay
                  cases may with
                  | false =>
                    have hon : Hid (oneM l = none) := oneM_none HP.out (.inr (.inr (by rw [hmk.out]; exact HMAY.out)))
                    go_wp2_with (first
                      | (refine wpList_put_at rfl 40 (.tmp 2) (.tmp 105) rfl w.heap.size 0 [.int .i64 zeroM.kind, .int .i64 zeroM.frm, .int .i64 zeroM.to, .int .i64 zeroM.ballot, .int .i64 zeroM.slot, .int .i64 zeroM.blob, .int .i64 zeroM.index, .int .i64 zeroM.epoch, .int .i64 zeroM.id, .bool zeroM.ok, .int .i64 zeroM.cmd.id, .int .i64 zeroM.cmd.kind, .string zeroM.cmd.key, .int .i64 zeroM.cmd.blob, .int .i64 zeroM.cmd.other, .int .i64 zeroM.cmd.index, .int .i64 zeroM.cmd.node, .int .i64 zeroM.cmd.size, .int .u32 zeroM.cmd.sum, .int .i64 zeroM.cmd.k, .int .i64 zeroM.cmd.m, .slice none 0 0, .slice none 0 0, .slice none 0 0] rfl rfl 40 _ #[.int .i64 zeroM.kind, .int .i64 zeroM.frm, .int .i64 zeroM.to, .int .i64 zeroM.ballot, .int .i64 zeroM.slot, .int .i64 zeroM.blob, .int .i64 zeroM.index, .int .i64 zeroM.epoch, .int .i64 zeroM.id, .bool zeroM.ok, .int .i64 zeroM.cmd.id, .int .i64 zeroM.cmd.kind, .string zeroM.cmd.key, .int .i64 zeroM.cmd.blob, .int .i64 zeroM.cmd.other, .int .i64 zeroM.cmd.index, .int .i64 zeroM.cmd.node, .int .i64 zeroM.cmd.size, .int .u32 zeroM.cmd.sum, .int .i64 zeroM.cmd.k, .int .i64 zeroM.cmd.m, .slice none 0 0, .slice none 0 0, .slice none 0 0] hr35 (by kernel_rfl) (by show (24 : Nat) ≤ 24; decide) (msg_one zeroM none none none 0 0 0 0 0 0) rfl ?_; intro w40 hgr40 hg40))
                    refine bodyPost_ret (results_row_tmp rfl _ _ w.heap.size 40 #[.int .i64 zeroM.kind, .int .i64 zeroM.frm, .int .i64 zeroM.to, .int .i64 zeroM.ballot, .int .i64 zeroM.slot, .int .i64 zeroM.blob, .int .i64 zeroM.index, .int .i64 zeroM.epoch, .int .i64 zeroM.id, .bool zeroM.ok, .int .i64 zeroM.cmd.id, .int .i64 zeroM.cmd.kind, .string zeroM.cmd.key, .int .i64 zeroM.cmd.blob, .int .i64 zeroM.cmd.other, .int .i64 zeroM.cmd.index, .int .i64 zeroM.cmd.node, .int .i64 zeroM.cmd.size, .int .u32 zeroM.cmd.sum, .int .i64 zeroM.cmd.k, .int .i64 zeroM.cmd.m, .slice none 0 0, .slice none 0 0, .slice none 0 0] (0, 0) _ rfl hg40 Try.underlying40 rfl (by kernel_rfl)) rfl ?_
                    exact ⟨none, 0, none, 0, none, 0, by rw [hon.out]; rfl, HB35.out.trans ⟨hgr40.os, hgr40.tape, hgr40.output, hgr40.size, fun k hk => hgr40.block k (by have := (HB35.out).size; omega) (by intro he; injection he with he; omega)⟩, by rw [hon.out]; exact mgown_zero _ _⟩
                  | true =>
                    have hon : Hid (oneM l = some ⟨h11m, cn, V, bs⟩) := by
                      have := oneM_good HP.out (by rw [hmk.out]; exact HMAY.out)
                      rw [hmk.out] at this
                      exact this
                    go_wp2_with (first
                      | (refine wpList_load_at rfl 40 (.tmp 5) rfl rfl hatN Try.underlying40 rfl (by kernel_rfl) ?_)
                      | (refine wpList_put_at rfl 40 (.tmp 2) (.tmp 106) rfl w.heap.size 0 [.int .i64 h11m.kind, .int .i64 h11m.frm, .int .i64 h11m.to, .int .i64 h11m.ballot, .int .i64 h11m.slot, .int .i64 h11m.blob, .int .i64 h11m.index, .int .i64 h11m.epoch, .int .i64 h11m.id, .bool h11m.ok, .int .i64 h11m.cmd.id, .int .i64 h11m.cmd.kind, .string h11m.cmd.key, .int .i64 h11m.cmd.blob, .int .i64 h11m.cmd.other, .int .i64 h11m.cmd.index, .int .i64 h11m.cmd.node, .int .i64 h11m.cmd.size, .int .u32 h11m.cmd.sum, .int .i64 h11m.cmd.k, .int .i64 h11m.cmd.m, .slice P cn.length e', .slice X V.length ev, .slice A33 bs.length c33] rfl rfl 40 _ #[.int .i64 h11m.kind, .int .i64 h11m.frm, .int .i64 h11m.to, .int .i64 h11m.ballot, .int .i64 h11m.slot, .int .i64 h11m.blob, .int .i64 h11m.index, .int .i64 h11m.epoch, .int .i64 h11m.id, .bool h11m.ok, .int .i64 h11m.cmd.id, .int .i64 h11m.cmd.kind, .string h11m.cmd.key, .int .i64 h11m.cmd.blob, .int .i64 h11m.cmd.other, .int .i64 h11m.cmd.index, .int .i64 h11m.cmd.node, .int .i64 h11m.cmd.size, .int .u32 h11m.cmd.sum, .int .i64 h11m.cmd.k, .int .i64 h11m.cmd.m, .slice P cn.length e', .slice X V.length ev, .slice A33 bs.length c33] hr35 (by kernel_rfl) (by show (24 : Nat) ≤ 24; decide) (msg_one h11m P X A33 cn.length e' V.length ev bs.length c33) rfl ?_; intro w40 hgr40 hg40))
                    refine bodyPost_ret (results_row_tmp rfl _ _ w.heap.size 40 #[.int .i64 h11m.kind, .int .i64 h11m.frm, .int .i64 h11m.to, .int .i64 h11m.ballot, .int .i64 h11m.slot, .int .i64 h11m.blob, .int .i64 h11m.index, .int .i64 h11m.epoch, .int .i64 h11m.id, .bool h11m.ok, .int .i64 h11m.cmd.id, .int .i64 h11m.cmd.kind, .string h11m.cmd.key, .int .i64 h11m.cmd.blob, .int .i64 h11m.cmd.other, .int .i64 h11m.cmd.index, .int .i64 h11m.cmd.node, .int .i64 h11m.cmd.size, .int .u32 h11m.cmd.sum, .int .i64 h11m.cmd.k, .int .i64 h11m.cmd.m, .slice P cn.length e', .slice X V.length ev, .slice A33 bs.length c33] (0, 0) _ rfl hg40 Try.underlying40 rfl (by kernel_rfl)) rfl ?_
                    exact ⟨P, e', X, ev, A33, c33, by rw [hon.out]; rfl, HB35.out.trans ⟨hgr40.os, hgr40.tape, hgr40.output, hgr40.size, fun k hk => hgr40.block k (by have := HB35.out.size; omega) (by intro he; injection he with he; omega)⟩, by rw [hon.out]; exact (HMO35.out.map (fun T sz v n xs h => own_keep h hgr40 (by omega))).lower (by omega)⟩
            · go_simp
              refine HN31.out.mono ?_
              rintro e w32 ⟨A32, c32, bs, s31, rfl, hA32, hfar32, hnil32, hS32, hgr32, hstep, hlt32, hcap32⟩
              have H31 := Lib.hid (show StepG (takeR kk) s30 bs s31 from hstep)
              have hz32 := hgr32.size
              have hg32 := (hgr32.block (w.heap.size + 1 + 1) (by omega) (by intro he; injection he with he; omega)).trans HG31.out
              have c23b := cell_of_row _ _ 23 _ _ (0, 0) hg32
              simp only [List.getElem?_toArray, List.getElem?_cons_succ, List.getElem?_cons_zero] at c23b
              have HG32 := Lib.hid hg32
              have HGR32 := Lib.hid hgr32
              have HS32 := Lib.hid hS32
              clear hstep hgr32 hg32 HN31 hS32 HG31
              go_wp2_with fail
              refine hKK.out _ _ trivial (fun _ => ?_)
              clear hKK KK
              (try simp only [List.getElem_toArray, List.getElem_cons_succ, List.getElem_cons_zero, Act.put, List.setIfInBounds_toArray, List.set_cons_zero, List.set_cons_succ])
              refine wpAnyH_ready (rs := [1]) (by kernel_rfl) (by simp) ?_; refine AllReadyH.cons rfl (fun KK hKK => ?_) AllReadyH.nil
              go_simp
              go_wp2_with fail
              refine hKK.out _ _ trivial (fun _ => ?_)
              clear hKK KK
              (try simp only [List.getElem_toArray, List.getElem_cons_succ, List.getElem_cons_zero, Act.put, List.setIfInBounds_toArray, List.set_cons_zero, List.set_cons_succ])
              refine wpAnyH_ready (rs := [6]) (by kernel_rfl) (by simp) ?_; refine AllReadyH.cons rfl (fun KK hKK => ?_) AllReadyH.nil
              have hsz32 : w3.heap.size ≤ w32.heap.size := by omega
              refine step_app_bytes rfl (.tmp 81) (.tmp 85) rfl w3.heap.size (v := .slice none 0 0) (n := 0) (xs := []) rfl (World.ownsRow_nil _ _ _ _ : w32.ownsRow w3.heap.size 5 1 (.slice none 0 0) 0 (bys [])) rfl (news := bs) rfl hA32 hnil32 (by omega) hsz32 ?_
              intro A33 c33 w33 ho33 hb33 hg33 hcap33
              have hgq33 := hg33.1
              clear hg33
              rw [List.nil_append, Nat.zero_add] at ho33
              rw [Nat.zero_add]
              have hg33G := (hb33.block (w.heap.size + 1 + 1) (by omega)).trans HG32.out
              have c23 := cell_of_row _ _ 23 _ _ (0, 0) hg33G
              have f23 := frozen_of_row _ _ 23 _ _ hg33G
              simp only [List.getElem?_toArray, List.getElem?_cons_succ, List.getElem?_cons_zero] at c23
              clear hA32 hfar32 hnil32 c23a c23b c23D hcap33 hcap32
              refine hKK.out _ _ trivial (fun _ => ?_)
              clear hKK KK
              (try simp only [List.getElem_toArray, List.getElem_cons_succ, List.getElem_cons_zero, Act.put, List.setIfInBounds_toArray, List.set_cons_zero, List.set_cons_succ])
              refine wpAnyH_take (i := 7) (v := ?_) rfl (by kernel_rfl) (by kernel_rfl) (by kernel_rfl) (fun _ _ _ h => h) (Or.inl ⟨by rfl, ?_⟩) (by assumption) ?_; rotate_left; (intro w hSw; (try dsimp only at hSw); go_simp; (first | done | (with_reducible rfl))); (try simp only [List.getElem_toArray, List.getElem_cons_succ, List.getElem_cons_zero, Act.put, List.setIfInBounds_toArray, List.set_cons_zero, List.set_cons_succ])
              refine wpAnyH_ready (rs := [8]) (by kernel_rfl) (by simp) ?_; refine AllReadyH.cons rfl (fun KK hKK => ?_) AllReadyH.nil
              go_simp
              go_wp2_with fail
              refine hKK.out _ _ trivial (fun _ => ?_)
              clear hKK KK
              (try simp only [List.getElem_toArray, List.getElem_cons_succ, List.getElem_cons_zero, Act.put, List.setIfInBounds_toArray, List.set_cons_zero, List.set_cons_succ])
              refine wpAnyH_done (by kernel_rfl) ?_ _
              have hset34 := heap_setCell_same w33 (w.heap.size + 1 + 1) 23 _ _ (.slice A33 bs.length c33) hg33G
              have hg34 : (w33.setCell ⟨w.heap.size + 1 + 1, 23, none⟩ (.slice A33 bs.length c33)).heap[w.heap.size + 1 + 1]? = some (.cells #[.int .i64 h11m.kind, .int .i64 h11m.frm, .int .i64 h11m.to, .int .i64 h11m.ballot, .int .i64 h11m.slot, .int .i64 h11m.blob, .int .i64 h11m.index, .int .i64 h11m.epoch, .int .i64 h11m.id, .bool h11m.ok, .int .i64 h11m.cmd.id, .int .i64 h11m.cmd.kind, .string h11m.cmd.key, .int .i64 h11m.cmd.blob, .int .i64 h11m.cmd.other, .int .i64 h11m.cmd.index, .int .i64 h11m.cmd.node, .int .i64 h11m.cmd.size, .int .u32 h11m.cmd.sum, .int .i64 h11m.cmd.k, .int .i64 h11m.cmd.m, .slice P cn.length e', .slice X V.length ev, .slice A33 bs.length c33] 40 (0, 0)) := hset34
              have hr33 := (hb33.block w.heap.size (by omega)).trans ((HGR32.out.block w.heap.size (by omega) (by intro he; injection he with he; omega)).trans ((HGR31.out.block w.heap.size (by omega) (by intro he; injection he with he; omega)).trans HRD.out))
              have hr34 := (heap_setCell_other w33 ⟨w.heap.size + 1 + 1, 23, none⟩ w.heap.size (.slice A33 bs.length c33) (by simp; omega)).trans hr33
              have hS34 := (HS32.out.belowB hb33 (by omega)).other (o := 23) (v := .slice A33 bs.length c33) (by omega : (w.heap.size + 1) < (w.heap.size + 1 + 1))
              have hT34 := (((HTD.out.trans (Two.of1 HGR31.out)).trans (Two.of1 HGR32.out)).below hb33).trans (Two.of2 (p := (w.heap.size + 1)) (grown_set w33 (w.heap.size + 1 + 1) 23 (.slice A33 bs.length c33)))
              have fk : ∀ T sz v n xs, WD.ownsRow w3.heap.size T sz v n xs → T ≠ 5 → (w33.setCell ⟨w.heap.size + 1 + 1, 23, none⟩ (.slice A33 bs.length c33)).ownsRow w3.heap.size T sz v n xs := fun T sz v n xs h hT =>
                ownsRow_setCell_below (own_app (own_keep (own_keep h HGR31.out (by omega)) HGR32.out (by omega)) hgq33) (show w.heap.size + 1 + 1 < w3.heap.size by omega) _
              have ho34 := ownsRow_setCell_below ho33 (show w.heap.size + 1 + 1 < w3.heap.size by omega) (.slice A33 bs.length c33) (a := ⟨w.heap.size + 1 + 1, 23, none⟩)
              have hMO : MgOwn (w33.setCell ⟨w.heap.size + 1 + 1, 23, none⟩ (.slice A33 bs.length c33)) w3.heap.size P e' X ev A33 c33 ⟨h11m, cn, V, bs⟩ :=
                ⟨fk _ _ _ _ _ HCD.out (by decide), hcl, ⟨us, fk _ _ _ _ _ HVD.out (by decide), VtsO.map (fun v n xs h => fk _ _ v n xs h (by decide)) _ _ HVOD.out⟩, hnn, ho34, by simp only; omega, by rw [show (⟨h11m, cn, V, bs⟩ : Mg).h.cmd = cc by show h11m.cmd = cc; rw [HH11.out]; rfl]; exact HSM.out⟩
              have HP : Hid (StepG partsM (some l) ([m1, m2, m3, m4, m5, m6, m7, m8, m9], okv, (cc, cn), V.length, V, kk, bs) s31) := by
                show StepG partsM _ _ _
                unfold partsM
                exact HNUM.out.then' (H11.out.then' (H12.out.then' (H13.out.then' (HV.out.then' (H30.out.then' H31.out)))))
              have hmk : Hid (mkM [m1, m2, m3, m4, m5, m6, m7, m8, m9] okv cc cn V bs = ⟨h11m, cn, V, bs⟩) := by show _ = _; rw [HH11.out, HH10.out]; rfl
              have hz34 : w3.heap.size ≤ (w33.setCell ⟨w.heap.size + 1 + 1, 23, none⟩ (.slice A33 bs.length c33)).heap.size := by simp; have := hb33.size; omega
              clear hset34 hr33 hg33G c23 f23 ho33 ho34 hb33 fk HGR31 HGR32 HVD HVOD HCD HGD HRD HTD HNUM H11 H12 H13 HV H30 H31 HH11 HH10 HG32 HS32
              generalize w33.setCell ⟨w.heap.size + 1 + 1, 23, none⟩ (.slice A33 bs.length c33) = w34 at *
              have hatM : At w34 (some ⟨w.heap.size + 1 + 1, 0, none⟩) [.int .i64 h11m.kind, .int .i64 h11m.frm, .int .i64 h11m.to, .int .i64 h11m.ballot, .int .i64 h11m.slot, .int .i64 h11m.blob, .int .i64 h11m.index, .int .i64 h11m.epoch, .int .i64 h11m.id, .bool h11m.ok, .int .i64 h11m.cmd.id, .int .i64 h11m.cmd.kind, .string h11m.cmd.key, .int .i64 h11m.cmd.blob, .int .i64 h11m.cmd.other, .int .i64 h11m.cmd.index, .int .i64 h11m.cmd.node, .int .i64 h11m.cmd.size, .int .u32 h11m.cmd.sum, .int .i64 h11m.cmd.k, .int .i64 h11m.cmd.m, .slice P cn.length e', .slice X V.length ev, .slice A33 bs.length c33] := at_cells hg34
              have HMM := Lib.hid (rmayMsg_calls (e := ev) hMO.at)
              simp only at HMM
              have HMO := Lib.hid hMO
              have HG34 := Lib.hid hg34
              have HB34 := Lib.hid (below_two HB3.out hT34 (by omega))
              clear hMO hg34 hT34
              obtain ⟨hfc, hff⟩ := hS34.flag
              cases s31 with
              | none =>
                have hon : Hid (oneM l = none) := oneM_none HP.out (.inl rfl)
                simp only [Option.isNone_none] at hfc
                clear hS34
                go_wp2_with (first
                  | (refine wpList_put_at rfl 40 (.tmp 2) (.tmp 105) rfl w.heap.size 0 [.int .i64 zeroM.kind, .int .i64 zeroM.frm, .int .i64 zeroM.to, .int .i64 zeroM.ballot, .int .i64 zeroM.slot, .int .i64 zeroM.blob, .int .i64 zeroM.index, .int .i64 zeroM.epoch, .int .i64 zeroM.id, .bool zeroM.ok, .int .i64 zeroM.cmd.id, .int .i64 zeroM.cmd.kind, .string zeroM.cmd.key, .int .i64 zeroM.cmd.blob, .int .i64 zeroM.cmd.other, .int .i64 zeroM.cmd.index, .int .i64 zeroM.cmd.node, .int .i64 zeroM.cmd.size, .int .u32 zeroM.cmd.sum, .int .i64 zeroM.cmd.k, .int .i64 zeroM.cmd.m, .slice none 0 0, .slice none 0 0, .slice none 0 0] rfl rfl 40 _ #[.int .i64 zeroM.kind, .int .i64 zeroM.frm, .int .i64 zeroM.to, .int .i64 zeroM.ballot, .int .i64 zeroM.slot, .int .i64 zeroM.blob, .int .i64 zeroM.index, .int .i64 zeroM.epoch, .int .i64 zeroM.id, .bool zeroM.ok, .int .i64 zeroM.cmd.id, .int .i64 zeroM.cmd.kind, .string zeroM.cmd.key, .int .i64 zeroM.cmd.blob, .int .i64 zeroM.cmd.other, .int .i64 zeroM.cmd.index, .int .i64 zeroM.cmd.node, .int .i64 zeroM.cmd.size, .int .u32 zeroM.cmd.sum, .int .i64 zeroM.cmd.k, .int .i64 zeroM.cmd.m, .slice none 0 0, .slice none 0 0, .slice none 0 0] hr34 (by kernel_rfl) (by show (24 : Nat) ≤ 24; decide) (msg_one zeroM none none none 0 0 0 0 0 0) rfl ?_; intro w40 hgr40 hg40))
                refine bodyPost_ret (results_row_tmp rfl _ _ w.heap.size 40 #[.int .i64 zeroM.kind, .int .i64 zeroM.frm, .int .i64 zeroM.to, .int .i64 zeroM.ballot, .int .i64 zeroM.slot, .int .i64 zeroM.blob, .int .i64 zeroM.index, .int .i64 zeroM.epoch, .int .i64 zeroM.id, .bool zeroM.ok, .int .i64 zeroM.cmd.id, .int .i64 zeroM.cmd.kind, .string zeroM.cmd.key, .int .i64 zeroM.cmd.blob, .int .i64 zeroM.cmd.other, .int .i64 zeroM.cmd.index, .int .i64 zeroM.cmd.node, .int .i64 zeroM.cmd.size, .int .u32 zeroM.cmd.sum, .int .i64 zeroM.cmd.k, .int .i64 zeroM.cmd.m, .slice none 0 0, .slice none 0 0, .slice none 0 0] (0, 0) _ rfl hg40 Try.underlying40 rfl (by kernel_rfl)) rfl ?_
                exact ⟨none, 0, none, 0, none, 0, by rw [hon.out]; rfl, HB34.out.trans ⟨hgr40.os, hgr40.tape, hgr40.output, hgr40.size, fun k hk => hgr40.block k (by have := (HB34.out).size; omega) (by intro he; injection he with he; omega)⟩, by rw [hon.out]; exact mgown_zero _ _⟩
              | some rr =>
                simp only [Option.isNone_some] at hfc
                obtain ⟨A5, c5, hR5⟩ := hS34
                have hb0 := cell_of_row _ _ 0 _ _ (0, 0) hR5.hd
                simp only [List.getElem?_toArray, List.getElem?_cons_succ, List.getElem?_cons_zero] at hb0
                clear hR5
                cases rr with
                | cons y rr =>
                  have hon : Hid (oneM l = none) := oneM_none HP.out (.inr (.inl ⟨y, rr, rfl⟩))
                  simp only [List.length_cons] at hb0
                  have hpos : (0 : Int) < ((rr.length + 1 : Nat) : Int) := by omega
                  go_wp2_with (first
                    | (refine wpList_put_at rfl 40 (.tmp 2) (.tmp 105) rfl w.heap.size 0 [.int .i64 zeroM.kind, .int .i64 zeroM.frm, .int .i64 zeroM.to, .int .i64 zeroM.ballot, .int .i64 zeroM.slot, .int .i64 zeroM.blob, .int .i64 zeroM.index, .int .i64 zeroM.epoch, .int .i64 zeroM.id, .bool zeroM.ok, .int .i64 zeroM.cmd.id, .int .i64 zeroM.cmd.kind, .string zeroM.cmd.key, .int .i64 zeroM.cmd.blob, .int .i64 zeroM.cmd.other, .int .i64 zeroM.cmd.index, .int .i64 zeroM.cmd.node, .int .i64 zeroM.cmd.size, .int .u32 zeroM.cmd.sum, .int .i64 zeroM.cmd.k, .int .i64 zeroM.cmd.m, .slice none 0 0, .slice none 0 0, .slice none 0 0] rfl rfl 40 _ #[.int .i64 zeroM.kind, .int .i64 zeroM.frm, .int .i64 zeroM.to, .int .i64 zeroM.ballot, .int .i64 zeroM.slot, .int .i64 zeroM.blob, .int .i64 zeroM.index, .int .i64 zeroM.epoch, .int .i64 zeroM.id, .bool zeroM.ok, .int .i64 zeroM.cmd.id, .int .i64 zeroM.cmd.kind, .string zeroM.cmd.key, .int .i64 zeroM.cmd.blob, .int .i64 zeroM.cmd.other, .int .i64 zeroM.cmd.index, .int .i64 zeroM.cmd.node, .int .i64 zeroM.cmd.size, .int .u32 zeroM.cmd.sum, .int .i64 zeroM.cmd.k, .int .i64 zeroM.cmd.m, .slice none 0 0, .slice none 0 0, .slice none 0 0] hr34 (by kernel_rfl) (by show (24 : Nat) ≤ 24; decide) (msg_one zeroM none none none 0 0 0 0 0 0) rfl ?_; intro w40 hgr40 hg40))
                  refine bodyPost_ret (results_row_tmp rfl _ _ w.heap.size 40 #[.int .i64 zeroM.kind, .int .i64 zeroM.frm, .int .i64 zeroM.to, .int .i64 zeroM.ballot, .int .i64 zeroM.slot, .int .i64 zeroM.blob, .int .i64 zeroM.index, .int .i64 zeroM.epoch, .int .i64 zeroM.id, .bool zeroM.ok, .int .i64 zeroM.cmd.id, .int .i64 zeroM.cmd.kind, .string zeroM.cmd.key, .int .i64 zeroM.cmd.blob, .int .i64 zeroM.cmd.other, .int .i64 zeroM.cmd.index, .int .i64 zeroM.cmd.node, .int .i64 zeroM.cmd.size, .int .u32 zeroM.cmd.sum, .int .i64 zeroM.cmd.k, .int .i64 zeroM.cmd.m, .slice none 0 0, .slice none 0 0, .slice none 0 0] (0, 0) _ rfl hg40 Try.underlying40 rfl (by kernel_rfl)) rfl ?_
                  exact ⟨none, 0, none, 0, none, 0, by rw [hon.out]; rfl, HB34.out.trans ⟨hgr40.os, hgr40.tape, hgr40.output, hgr40.size, fun k hk => hgr40.block k (by have := (HB34.out).size; omega) (by intro he; injection he with he; omega)⟩, by rw [hon.out]; exact mgown_zero _ _⟩
                | nil =>
                  simp only [List.length_nil] at hb0
                  go_wp2_with (refine load_atG (by rfl) 40 (.tmp 5) rfl rfl hatM Try.underlying40 rfl (by kernel_rfl) ?_)
                  refine HMM.out.mono ?_
                  rintro e w35 ⟨rfl, hb35⟩
                  have hz35 := hb35.size
                  have hr35 := (hb35.block w.heap.size (by omega)).trans hr34
                  have hatN : At w35 (some ⟨w.heap.size + 1 + 1, 0, none⟩) [.int .i64 h11m.kind, .int .i64 h11m.frm, .int .i64 h11m.to, .int .i64 h11m.ballot, .int .i64 h11m.slot, .int .i64 h11m.blob, .int .i64 h11m.index, .int .i64 h11m.epoch, .int .i64 h11m.id, .bool h11m.ok, .int .i64 h11m.cmd.id, .int .i64 h11m.cmd.kind, .string h11m.cmd.key, .int .i64 h11m.cmd.blob, .int .i64 h11m.cmd.other, .int .i64 h11m.cmd.index, .int .i64 h11m.cmd.node, .int .i64 h11m.cmd.size, .int .u32 h11m.cmd.sum, .int .i64 h11m.cmd.k, .int .i64 h11m.cmd.m, .slice P cn.length e', .slice X V.length ev, .slice A33 bs.length c33] := at_cells ((hb35.block (w.heap.size + 1 + 1) (by omega)).trans HG34.out)
                  have HB35 := Lib.hid (HB34.out.trans (hb35.mono (by omega)))
                  have HMO35 := Lib.hid (HMO.out.map (fun T sz v n xs h => own_below h hb35))
                  clear HMM hatM hb35 HB34 HMO HG34
                  generalize hmay : mayM ⟨h11m, cn, V, bs⟩ = may at *
                  have HMAY := Lib.hid hmay
                  clear hmay
                  cases may with
                  | false =>
                    have hon : Hid (oneM l = none) := oneM_none HP.out (.inr (.inr (by rw [hmk.out]; exact HMAY.out)))
                    go_wp2_with (first
                      | (refine wpList_put_at rfl 40 (.tmp 2) (.tmp 105) rfl w.heap.size 0 [.int .i64 zeroM.kind, .int .i64 zeroM.frm, .int .i64 zeroM.to, .int .i64 zeroM.ballot, .int .i64 zeroM.slot, .int .i64 zeroM.blob, .int .i64 zeroM.index, .int .i64 zeroM.epoch, .int .i64 zeroM.id, .bool zeroM.ok, .int .i64 zeroM.cmd.id, .int .i64 zeroM.cmd.kind, .string zeroM.cmd.key, .int .i64 zeroM.cmd.blob, .int .i64 zeroM.cmd.other, .int .i64 zeroM.cmd.index, .int .i64 zeroM.cmd.node, .int .i64 zeroM.cmd.size, .int .u32 zeroM.cmd.sum, .int .i64 zeroM.cmd.k, .int .i64 zeroM.cmd.m, .slice none 0 0, .slice none 0 0, .slice none 0 0] rfl rfl 40 _ #[.int .i64 zeroM.kind, .int .i64 zeroM.frm, .int .i64 zeroM.to, .int .i64 zeroM.ballot, .int .i64 zeroM.slot, .int .i64 zeroM.blob, .int .i64 zeroM.index, .int .i64 zeroM.epoch, .int .i64 zeroM.id, .bool zeroM.ok, .int .i64 zeroM.cmd.id, .int .i64 zeroM.cmd.kind, .string zeroM.cmd.key, .int .i64 zeroM.cmd.blob, .int .i64 zeroM.cmd.other, .int .i64 zeroM.cmd.index, .int .i64 zeroM.cmd.node, .int .i64 zeroM.cmd.size, .int .u32 zeroM.cmd.sum, .int .i64 zeroM.cmd.k, .int .i64 zeroM.cmd.m, .slice none 0 0, .slice none 0 0, .slice none 0 0] hr35 (by kernel_rfl) (by show (24 : Nat) ≤ 24; decide) (msg_one zeroM none none none 0 0 0 0 0 0) rfl ?_; intro w40 hgr40 hg40))
                    refine bodyPost_ret (results_row_tmp rfl _ _ w.heap.size 40 #[.int .i64 zeroM.kind, .int .i64 zeroM.frm, .int .i64 zeroM.to, .int .i64 zeroM.ballot, .int .i64 zeroM.slot, .int .i64 zeroM.blob, .int .i64 zeroM.index, .int .i64 zeroM.epoch, .int .i64 zeroM.id, .bool zeroM.ok, .int .i64 zeroM.cmd.id, .int .i64 zeroM.cmd.kind, .string zeroM.cmd.key, .int .i64 zeroM.cmd.blob, .int .i64 zeroM.cmd.other, .int .i64 zeroM.cmd.index, .int .i64 zeroM.cmd.node, .int .i64 zeroM.cmd.size, .int .u32 zeroM.cmd.sum, .int .i64 zeroM.cmd.k, .int .i64 zeroM.cmd.m, .slice none 0 0, .slice none 0 0, .slice none 0 0] (0, 0) _ rfl hg40 Try.underlying40 rfl (by kernel_rfl)) rfl ?_
                    exact ⟨none, 0, none, 0, none, 0, by rw [hon.out]; rfl, HB35.out.trans ⟨hgr40.os, hgr40.tape, hgr40.output, hgr40.size, fun k hk => hgr40.block k (by have := (HB35.out).size; omega) (by intro he; injection he with he; omega)⟩, by rw [hon.out]; exact mgown_zero _ _⟩
                  | true =>
                    have hon : Hid (oneM l = some ⟨h11m, cn, V, bs⟩) := by
                      have := oneM_good HP.out (by rw [hmk.out]; exact HMAY.out)
                      rw [hmk.out] at this
                      exact this
                    go_wp2_with (first
                      | (refine wpList_load_at rfl 40 (.tmp 5) rfl rfl hatN Try.underlying40 rfl (by kernel_rfl) ?_)
                      | (refine wpList_put_at rfl 40 (.tmp 2) (.tmp 106) rfl w.heap.size 0 [.int .i64 h11m.kind, .int .i64 h11m.frm, .int .i64 h11m.to, .int .i64 h11m.ballot, .int .i64 h11m.slot, .int .i64 h11m.blob, .int .i64 h11m.index, .int .i64 h11m.epoch, .int .i64 h11m.id, .bool h11m.ok, .int .i64 h11m.cmd.id, .int .i64 h11m.cmd.kind, .string h11m.cmd.key, .int .i64 h11m.cmd.blob, .int .i64 h11m.cmd.other, .int .i64 h11m.cmd.index, .int .i64 h11m.cmd.node, .int .i64 h11m.cmd.size, .int .u32 h11m.cmd.sum, .int .i64 h11m.cmd.k, .int .i64 h11m.cmd.m, .slice P cn.length e', .slice X V.length ev, .slice A33 bs.length c33] rfl rfl 40 _ #[.int .i64 h11m.kind, .int .i64 h11m.frm, .int .i64 h11m.to, .int .i64 h11m.ballot, .int .i64 h11m.slot, .int .i64 h11m.blob, .int .i64 h11m.index, .int .i64 h11m.epoch, .int .i64 h11m.id, .bool h11m.ok, .int .i64 h11m.cmd.id, .int .i64 h11m.cmd.kind, .string h11m.cmd.key, .int .i64 h11m.cmd.blob, .int .i64 h11m.cmd.other, .int .i64 h11m.cmd.index, .int .i64 h11m.cmd.node, .int .i64 h11m.cmd.size, .int .u32 h11m.cmd.sum, .int .i64 h11m.cmd.k, .int .i64 h11m.cmd.m, .slice P cn.length e', .slice X V.length ev, .slice A33 bs.length c33] hr35 (by kernel_rfl) (by show (24 : Nat) ≤ 24; decide) (msg_one h11m P X A33 cn.length e' V.length ev bs.length c33) rfl ?_; intro w40 hgr40 hg40))
                    refine bodyPost_ret (results_row_tmp rfl _ _ w.heap.size 40 #[.int .i64 h11m.kind, .int .i64 h11m.frm, .int .i64 h11m.to, .int .i64 h11m.ballot, .int .i64 h11m.slot, .int .i64 h11m.blob, .int .i64 h11m.index, .int .i64 h11m.epoch, .int .i64 h11m.id, .bool h11m.ok, .int .i64 h11m.cmd.id, .int .i64 h11m.cmd.kind, .string h11m.cmd.key, .int .i64 h11m.cmd.blob, .int .i64 h11m.cmd.other, .int .i64 h11m.cmd.index, .int .i64 h11m.cmd.node, .int .i64 h11m.cmd.size, .int .u32 h11m.cmd.sum, .int .i64 h11m.cmd.k, .int .i64 h11m.cmd.m, .slice P cn.length e', .slice X V.length ev, .slice A33 bs.length c33] (0, 0) _ rfl hg40 Try.underlying40 rfl (by kernel_rfl)) rfl ?_
                    exact ⟨P, e', X, ev, A33, c33, by rw [hon.out]; rfl, HB35.out.trans ⟨hgr40.os, hgr40.tape, hgr40.output, hgr40.size, fun k hk => hgr40.block k (by have := HB35.out.size; omega) (by intro he; injection he with he; omega)⟩, by rw [hon.out]; exact (HMO35.out.map (fun T sz v n xs h => own_keep h hgr40 (by omega))).lower (by omega)⟩
    · have hx1i : ¬ ((1 : Int) < (x.toNat : Int)) := by omega
      have hs3 := hs2 hx1
      obtain ⟨okv, hokv⟩ : ∃ okv, okv = (x == 1#8) := ⟨_, rfl⟩
      rw [← hokv] at hs3
      have hoi : ((x.toNat : Int) == 1) = okv := by
        rw [hokv]
        by_cases hxx : x = 1#8
        · subst hxx; rfl
        · have h1 : (x == 1#8) = false := by simpa using hxx
          have h2 : ¬ x.toNat = 1 := fun hh => hxx (by apply BitVec.eq_of_toNat_eq; simpa using hh)
          rw [h1]
          simp; omega
      clear hokv
      have H11 := Lib.hid hs3
      obtain ⟨h10m, hh10⟩ : ∃ h10m : Mh, h10m = Mh.mk (m1 : Int) (m2 : Int) (m3 : Int) (m4 : Int) (m5 : Int) (m6 : Int) (m7 : Int) (m8 : Int) (m9 : Int) okv zeroC := ⟨_, rfl⟩
      have p0 := put_row 9 (.bool okv) HG15.out HS10.out HT15.out (by omega)
      have hgn := p0.1
      simp only [List.set_cons_zero, List.set_cons_succ] at hgn
      have HS16 := Lib.hid p0.2.1
      have HT16 := Lib.hid p0.2.2
      have hz16 : w3.heap.size ≤ (w15.setCell ⟨w.heap.size + 1 + 1, 9, none⟩ (.bool okv)).heap.size := by simpa using hz15
      have HG16 : Hid ((w15.setCell ⟨w.heap.size + 1 + 1, 9, none⟩ (.bool okv)).heap[w.heap.size + 1 + 1]? = some (.cells #[.int .i64 h10m.kind, .int .i64 h10m.frm, .int .i64 h10m.to, .int .i64 h10m.ballot, .int .i64 h10m.slot, .int .i64 h10m.blob, .int .i64 h10m.index, .int .i64 h10m.epoch, .int .i64 h10m.id, .bool h10m.ok, .int .i64 h10m.cmd.id, .int .i64 h10m.cmd.kind, .string h10m.cmd.key, .int .i64 h10m.cmd.blob, .int .i64 h10m.cmd.other, .int .i64 h10m.cmd.index, .int .i64 h10m.cmd.node, .int .i64 h10m.cmd.size, .int .u32 h10m.cmd.sum, .int .i64 h10m.cmd.k, .int .i64 h10m.cmd.m, .slice none 0 0, .slice none 0 0, .slice none 0 0] 40 (0, 0))) := by
        show (w15.setCell ⟨w.heap.size + 1 + 1, 9, none⟩ (.bool okv)).heap[w.heap.size + 1 + 1]? = _
        rw [hh10]; rw [HH9.out] at hgn; exact hgn
      have HH10 := Lib.hid hh10
      have c9 := cell_of_row _ _ 9 _ _ (0, 0) HG15.out
      have f9 := frozen_of_row _ _ 9 _ _ HG15.out
      simp only [List.getElem?_toArray, List.getElem?_cons_succ, List.getElem?_cons_zero] at c9
      obtain ⟨hfc, hff⟩ := HF.out
      simp only [Option.isNone_some] at hfc
      clear hh10 p0 hgn hs3
      obtain ⟨bx, ox, hbx, hcx⟩ := HA10.out 0 _ rfl
      subst hbx
      rw [Nat.add_zero] at hcx
      replace hcx : w15.cell? ⟨bx, ox, none⟩ = some (.int .u8 (x.toNat : Int)) := hcx
      simp only [List.length_cons, List.length_nil]
      clear hs1 hs2 hx1
      go_wp2_with fail
      clear hfc hff hcx hx1i c9 f9 hoi
      generalize w15.setCell ⟨w.heap.size + 1 + 1, 9, none⟩ (.bool okv) = w16 at *
      clear HG15 HT15 HS10 HA10 HF HH9
      have HN11 := Lib.hid (rcmdS_calls HS16.out)
      clear HS16
      refine HN11.out.mono ?_
      rintro e w17 ⟨cc, cn, P, e', s12, rfl, hS17, hgr17, hown17, hstep, hcl, hsm⟩
      have H12 := Lib.hid (show StepG readC (some r) (cc, cn) s12 from hstep)
      have HSM := Lib.hid hsm
      have hg17 := (hgr17.block (w.heap.size + 1 + 1) (by omega) (by intro he; injection he with he; omega)).trans HG16.out
      have HT17 := Lib.hid (HT16.out.trans (Two.of1 hgr17))
      have hz17 := hgr17.size
      obtain ⟨h11m, hh11m⟩ : ∃ h11m : Mh, h11m = Mh.withC h10m cc := ⟨_, rfl⟩
      have hnew : (#[.int .i64 h10m.kind, .int .i64 h10m.frm, .int .i64 h10m.to, .int .i64 h10m.ballot, .int .i64 h10m.slot, .int .i64 h10m.blob, .int .i64 h10m.index, .int .i64 h10m.epoch, .int .i64 h10m.id, .bool h10m.ok, .int .i64 h10m.cmd.id, .int .i64 h10m.cmd.kind, .string h10m.cmd.key, .int .i64 h10m.cmd.blob, .int .i64 h10m.cmd.other, .int .i64 h10m.cmd.index, .int .i64 h10m.cmd.node, .int .i64 h10m.cmd.size, .int .u32 h10m.cmd.sum, .int .i64 h10m.cmd.k, .int .i64 h10m.cmd.m, .slice none 0 0, .slice none 0 0, .slice none 0 0] : Array Value).toList.take 10 ++ [.int .i64 cc.id, .int .i64 cc.kind, .string cc.key, .int .i64 cc.blob, .int .i64 cc.other, .int .i64 cc.index, .int .i64 cc.node, .int .i64 cc.size, .int .u32 cc.sum, .int .i64 cc.k, .int .i64 cc.m, .slice P cn.length e'] ++ (#[.int .i64 h10m.kind, .int .i64 h10m.frm, .int .i64 h10m.to, .int .i64 h10m.ballot, .int .i64 h10m.slot, .int .i64 h10m.blob, .int .i64 h10m.index, .int .i64 h10m.epoch, .int .i64 h10m.id, .bool h10m.ok, .int .i64 h10m.cmd.id, .int .i64 h10m.cmd.kind, .string h10m.cmd.key, .int .i64 h10m.cmd.blob, .int .i64 h10m.cmd.other, .int .i64 h10m.cmd.index, .int .i64 h10m.cmd.node, .int .i64 h10m.cmd.size, .int .u32 h10m.cmd.sum, .int .i64 h10m.cmd.k, .int .i64 h10m.cmd.m, .slice none 0 0, .slice none 0 0, .slice none 0 0] : Array Value).toList.drop (10 + 12) = (#[.int .i64 h11m.kind, .int .i64 h11m.frm, .int .i64 h11m.to, .int .i64 h11m.ballot, .int .i64 h11m.slot, .int .i64 h11m.blob, .int .i64 h11m.index, .int .i64 h11m.epoch, .int .i64 h11m.id, .bool h11m.ok, .int .i64 h11m.cmd.id, .int .i64 h11m.cmd.kind, .string h11m.cmd.key, .int .i64 h11m.cmd.blob, .int .i64 h11m.cmd.other, .int .i64 h11m.cmd.index, .int .i64 h11m.cmd.node, .int .i64 h11m.cmd.size, .int .u32 h11m.cmd.sum, .int .i64 h11m.cmd.k, .int .i64 h11m.cmd.m, .slice P cn.length e', .slice none 0 0, .slice none 0 0] : Array Value).toList := by rw [hh11m]; exact msg_put _ _ _ _ _ _
      have HNEW := Lib.hid hnew
      have HH11 := Lib.hid hh11m
      have hown17' := own_lower hown17 (show w3.heap.size ≤ w16.heap.size by omega)
      clear hstep hsm hgr17 HN11 HG16 HT16 hnew hh11m hown17
      unfold cmv
      go_wp2_with (refine wpList_put_at rfl 27 (.tmp 60) (.tmp 59) rfl (w.heap.size + 1 + 1) 10 [.int .i64 cc.id, .int .i64 cc.kind, .string cc.key, .int .i64 cc.blob, .int .i64 cc.other, .int .i64 cc.index, .int .i64 cc.node, .int .i64 cc.size, .int .u32 cc.sum, .int .i64 cc.k, .int .i64 cc.m, .slice P cn.length e'] rfl rfl 40 _ #[.int .i64 h11m.kind, .int .i64 h11m.frm, .int .i64 h11m.to, .int .i64 h11m.ballot, .int .i64 h11m.slot, .int .i64 h11m.blob, .int .i64 h11m.index, .int .i64 h11m.epoch, .int .i64 h11m.id, .bool h11m.ok, .int .i64 h11m.cmd.id, .int .i64 h11m.cmd.kind, .string h11m.cmd.key, .int .i64 h11m.cmd.blob, .int .i64 h11m.cmd.other, .int .i64 h11m.cmd.index, .int .i64 h11m.cmd.node, .int .i64 h11m.cmd.size, .int .u32 h11m.cmd.sum, .int .i64 h11m.cmd.k, .int .i64 h11m.cmd.m, .slice P cn.length e', .slice none 0 0, .slice none 0 0] hg17 (by kernel_rfl) (by show (22 : Nat) ≤ 24; decide) (cmd_one cc P cn.length e') HNEW.out ?_; intro w18 hgr18 hg18; have hS18 := hS17.grown hgr18 (by omega); have HN12 := Lib.hid (rlistS_calls (most := 1000) hS18 (by decide)))
      have hz18 := hgr18.size
      have HG18 := Lib.hid hg18
      have HT18 := Lib.hid (HT17.out.trans (Two.of2 hgr18))
      have hown18 := own_keep hown17' hgr18 (by omega)
      clear hg18 hgr18 hg17 hown17' hS17 hS18 HNEW HT17
      refine HN12.out.mono ?_
      rintro e w19 ⟨nn, s13, rfl, hS19, hgr19, hstep, hnn⟩
      have H13 := Lib.hid (show StepG (numR 1000) s12 nn s13 from hstep)
      have hT19 := HT18.out.trans (Two.of1 hgr19)
      have HG19 := Lib.hid ((hgr19.block (w.heap.size + 1 + 1) (by omega) (by intro he; injection he with he; omega)).trans HG18.out)
      have hown19 := own_keep hown18 hgr19 (by omega)
      have hz19 := hgr19.size
      clear hstep HN12 HG18 hown18 hgr19 HT18
      go_wp2_with fail
      have hnil19 : w19.ownsRow w3.heap.size 74 14 (.slice none 0 0) 0 [] := World.ownsRow_nil _ _ _ _
      go_loopw [63] (fun s63 wr => ∃ (t : Nat) (V : List Vt) (sl : Option (List B8)) (X : Option Addr) (ev : Nat) (us : List Value), t ≤ nn ∧ s63 = .int .i64 ((t : Nat) : Int) ∧ V.length = t ∧ Hid (StepG (votesR t) s13 V sl) ∧ RdS wr (w.heap.size + 1) sl ∧ Hid (wr.heap[w.heap.size + 1 + 1]? = some (.cells #[.int .i64 h11m.kind, .int .i64 h11m.frm, .int .i64 h11m.to, .int .i64 h11m.ballot, .int .i64 h11m.slot, .int .i64 h11m.blob, .int .i64 h11m.index, .int .i64 h11m.epoch, .int .i64 h11m.id, .bool h11m.ok, .int .i64 h11m.cmd.id, .int .i64 h11m.cmd.kind, .string h11m.cmd.key, .int .i64 h11m.cmd.blob, .int .i64 h11m.cmd.other, .int .i64 h11m.cmd.index, .int .i64 h11m.cmd.node, .int .i64 h11m.cmd.size, .int .u32 h11m.cmd.sum, .int .i64 h11m.cmd.k, .int .i64 h11m.cmd.m, .slice P cn.length e', .slice X t ev, .slice none 0 0] 40 (0, 0))) ∧ wr.ownsRow w3.heap.size 74 14 (.slice X t ev) t us ∧ Hid (VtsO wr w3.heap.size us V) ∧ Two w3 wr (w.heap.size + 1) (w.heap.size + 1 + 1) ∧ wr.ownsRow w3.heap.size 3 1 (.slice P cn.length e') cn.length (ints cn)) (fun s63 _ => nn - (intOf s63).toNat)
      case atStart => exact ⟨0, [], s13, none, 0, [], by omega, rfl, rfl, Lib.hid StepG.votes0, hS19, HG19, hnil19, rfl, hT19, hown19⟩
      case round =>
        obtain ⟨t, V, sl, X, ev, us, ht, rfl, hVl, HV, hS, HG, hvo, HVO, hT, hco⟩ := hrel
        rename World => wr
        clear hS19 HG19 hnil19 hT19 hown19
        have hzr := hT.size
        by_cases htn : t < nn
        · have hti : (t : Int) < (nn : Int) := by omega
          have HN20 := Lib.hid (rnumS_calls hS)
          have HTr := Lib.hid hT
          clear hS hT
          go_wp2_with fail
          refine HN20.out.mono ?_
          rintro e w20 ⟨b0, s20, rfl, hS20, hgr20, hstep⟩
          have H20 := Lib.hid (show StepG (numR 1152921504606846976) sl b0 s20 from hstep)
          have HGR20 := Lib.hid hgr20
          have hz20 := hgr20.size
          have HN21 := Lib.hid (rnumS_calls hS20)
          clear hstep hgr20 HN20 hS20
          go_wp2_with fail
          refine HN21.out.mono ?_
          rintro e w21 ⟨b1, s21, rfl, hS21, hgr21, hstep⟩
          have H21 := Lib.hid (show StepG (numR 1152921504606846976) s20 b1 s21 from hstep)
          have HGR21 := Lib.hid hgr21
          have hz21 := hgr21.size
          obtain ⟨w22, hw22, hB22, hv22, hz22⟩ := any_box w21 #[.int .i64 (b0 : Int), .int .i64 (b1 : Int), .int .i64 zeroC.id, .int .i64 zeroC.kind, .string zeroC.key, .int .i64 zeroC.blob, .int .i64 zeroC.other, .int .i64 zeroC.index, .int .i64 zeroC.node, .int .i64 zeroC.size, .int .u32 zeroC.sum, .int .i64 zeroC.k, .int .i64 zeroC.m, .slice none 0 0] 74
          have HN23 := Lib.hid (rcmdS_calls (hS21.belowB hB22 (by omega)))
          have HW22 := Lib.hid hw22
          have HB22 := Lib.hid hB22
          have HV22 := Lib.hid hv22
          clear hstep hgr21 HN21 hS21 hw22 hB22 hv22
          go_wp2_with fail
          have hw22 := HW22.out
          rw [show w21.alloc (.cells #[.int .i64 (b0 : Int), .int .i64 (b1 : Int), .int .i64 0, .int .i64 0, .string ⟨#[]⟩, .int .i64 0, .int .i64 0, .int .i64 0, .int .i64 0, .int .i64 0, .int .u32 0, .int .i64 0, .int .i64 0, .slice none 0 0] 74) = w22 from hw22.symm]
          clear hw22 HW22
          refine HN23.out.mono ?_
          rintro e w23 ⟨vc, vn, Pv, ev', s23, rfl, hS23, hgr23, hown23, hstep, hvl, hvs⟩
          have H23 := Lib.hid (show StepG readC s21 (vc, vn) s23 from hstep)
          have hg23 := (hgr23.block w21.heap.size (by omega) (by intro he; injection he with he; omega)).trans HV22.out
          have hz23 := hgr23.size
          have HGR23 := Lib.hid hgr23
          have HVS := Lib.hid hvs
          clear hstep hgr23 HN23 HV22 hvs
          unfold cmv
          go_wp2_with (first
            | (refine wpList_put_at rfl 27 (.tmp 72) (.tmp 71) rfl w21.heap.size 2 [.int .i64 vc.id, .int .i64 vc.kind, .string vc.key, .int .i64 vc.blob, .int .i64 vc.other, .int .i64 vc.index, .int .i64 vc.node, .int .i64 vc.size, .int .u32 vc.sum, .int .i64 vc.k, .int .i64 vc.m, .slice Pv vn.length ev'] rfl rfl 74 _ #[.int .i64 (b0 : Int), .int .i64 (b1 : Int), .int .i64 vc.id, .int .i64 vc.kind, .string vc.key, .int .i64 vc.blob, .int .i64 vc.other, .int .i64 vc.index, .int .i64 vc.node, .int .i64 vc.size, .int .u32 vc.sum, .int .i64 vc.k, .int .i64 vc.m, .slice Pv vn.length ev'] hg23 (by kernel_rfl) (by show (14 : Nat) ≤ 14; decide) (cmd_one vc Pv vn.length ev') (vote_put _ _ _ _ _ _) ?_; intro w24 hgr24 hg24
               have hz24 := hgr24.size
               have hgN := (hgr24.block (w.heap.size + 1 + 1) (by omega) (by intro he; injection he with he; omega)).trans ((HGR23.out.block (w.heap.size + 1 + 1) (by omega) (by intro he; injection he with he; omega)).trans ((HB22.out.block (w.heap.size + 1 + 1) (by omega)).trans ((HGR21.out.block (w.heap.size + 1 + 1) (by omega) (by intro he; injection he with he; omega)).trans ((HGR20.out.block (w.heap.size + 1 + 1) (by omega) (by intro he; injection he with he; omega)).trans HG.out))))
               have c22 := cell_of_row _ _ 22 _ _ (0, 0) hgN
               simp only [List.getElem?_toArray, List.getElem?_cons_succ, List.getElem?_cons_zero] at c22
               have hat24 : At w24 (some ⟨w21.heap.size, 0, none⟩) [.int .i64 (b0 : Int), .int .i64 (b1 : Int), .int .i64 vc.id, .int .i64 vc.kind, .string vc.key, .int .i64 vc.blob, .int .i64 vc.other, .int .i64 vc.index, .int .i64 vc.node, .int .i64 vc.size, .int .u32 vc.sum, .int .i64 vc.k, .int .i64 vc.m, .slice Pv vn.length ev'] := at_cells hg24
               have hks : KeepS w3.heap.size w21.heap.size w21 w24 := fun k hk1 hk2 => (hgr24.block k (by omega) (by intro he; injection he with he; omega)).trans ((HGR23.out.block k (by omega) (by intro he; injection he with he; omega)).trans (HB22.out.block k (by omega)))
               have ho24 := own_keepS (own_keep (own_keep hvo HGR20.out (by omega)) HGR21.out (by omega)) hks
               have HCO24 := Lib.hid (own_keepS (own_keep (own_keep hco HGR20.out (by omega)) HGR21.out (by omega)) hks)
               have HVO24 := Lib.hid (VtsO.map (fun v n xs h => own_keepS (own_keep (own_keep h HGR20.out (by omega)) HGR21.out (by omega)) hks) _ _ HVO.out)
               have hnv24 := own_keep hown23 hgr24 (by omega)
               have hbl := below1' w24 (.cells #[.int .i64 (b0 : Int), .int .i64 (b1 : Int), .int .i64 vc.id, .int .i64 vc.kind, .string vc.key, .int .i64 vc.blob, .int .i64 vc.other, .int .i64 vc.index, .int .i64 vc.node, .int .i64 vc.size, .int .u32 vc.sum, .int .i64 vc.k, .int .i64 vc.m, .slice Pv vn.length ev'] 74)
               have hat25 : At (w24.alloc (.cells #[.int .i64 (b0 : Int), .int .i64 (b1 : Int), .int .i64 vc.id, .int .i64 vc.kind, .string vc.key, .int .i64 vc.blob, .int .i64 vc.other, .int .i64 vc.index, .int .i64 vc.node, .int .i64 vc.size, .int .u32 vc.sum, .int .i64 vc.k, .int .i64 vc.m, .slice Pv vn.length ev'] 74)) (some ⟨w24.heap.size, 0, none⟩) [.int .i64 (b0 : Int), .int .i64 (b1 : Int), .int .i64 vc.id, .int .i64 vc.kind, .string vc.key, .int .i64 vc.blob, .int .i64 vc.other, .int .i64 vc.index, .int .i64 vc.node, .int .i64 vc.size, .int .u32 vc.sum, .int .i64 vc.k, .int .i64 vc.m, .slice Pv vn.length ev'] := at_alloc w24 #[.int .i64 (b0 : Int), .int .i64 (b1 : Int), .int .i64 vc.id, .int .i64 vc.kind, .string vc.key, .int .i64 vc.blob, .int .i64 vc.other, .int .i64 vc.index, .int .i64 vc.node, .int .i64 vc.size, .int .u32 vc.sum, .int .i64 vc.k, .int .i64 vc.m, .slice Pv vn.length ev'] 74 (0, 0)
               have ho25 := own_below ho24 hbl
               have hsz25 : w3.heap.size ≤ (w24.alloc (.cells #[.int .i64 (b0 : Int), .int .i64 (b1 : Int), .int .i64 vc.id, .int .i64 vc.kind, .string vc.key, .int .i64 vc.blob, .int .i64 vc.other, .int .i64 vc.index, .int .i64 vc.node, .int .i64 vc.size, .int .u32 vc.sum, .int .i64 vc.k, .int .i64 vc.m, .slice Pv vn.length ev'] 74)).heap.size := by simp; omega
               have HG24 := Lib.hid hgN
               have HS24 := Lib.hid (hS23.grown hgr24 (by omega))
               have HT24 := Lib.hid ((((((HTr.out.trans (Two.of1 HGR20.out)).trans (Two.of1 HGR21.out)).below (HB22.out.mono (by omega))).trans (Two.of1 HGR23.out))).new (Two.of2 (p := (w.heap.size + 1)) hgr24) (by omega))
               have HNV24 := Lib.hid (own_lower hnv24 (show w3.heap.size ≤ w22.heap.size by omega))
               clear hgN hks hvo hco hnv24 hgr24 hg23 hown23 hS23)
            | (refine wpList_load_at rfl 74 (.tmp 7) rfl rfl hat24 Try.underlying74 rfl (by kernel_rfl) ?_)
            | (refine app_vote rfl (.tmp 74) (.tmp 76) rfl w3.heap.size (v := .slice X t ev) rfl ho25 rfl (news := [.int .i64 (b0 : Int), .int .i64 (b1 : Int), .int .i64 vc.id, .int .i64 vc.kind, .string vc.key, .int .i64 vc.blob, .int .i64 vc.other, .int .i64 vc.index, .int .i64 vc.node, .int .i64 vc.size, .int .u32 vc.sum, .int .i64 vc.k, .int .i64 vc.m, .slice Pv vn.length ev']) rfl hat25 (vtc_one (s := (b0 : Int)) (b := (b1 : Int)) vc Pv vn.length ev') (by intro h; cases h) (by omega) hsz25 ?_; intro X15 ev15 w26 ho26 hb26 hg26 hcap26
               have hg26G := (hb26.block (w.heap.size + 1 + 1) (by omega)).trans ((hbl.block (w.heap.size + 1 + 1) (by omega)).trans HG24.out)
               have d22 := cell_of_row _ _ 22 _ _ (0, 0) hg26G
               have f22 := frozen_of_row _ _ 22 _ _ hg26G
               simp only [List.getElem?_toArray, List.getElem?_cons_succ, List.getElem?_cons_zero] at d22))
          have fk : ∀ v n xs, w24.ownsRow w3.heap.size 3 1 v n xs → (w26.setCell ⟨w.heap.size + 1 + 1, 22, none⟩ (.slice X15 (t + 1) ev15)).ownsRow w3.heap.size 3 1 v n xs := fun v n xs h =>
            ownsRow_setCell_below ((own_below h hbl).kept hg26.1 (own_part (own_below h hbl) ho25 (by decide))) (show w.heap.size + 1 + 1 < w3.heap.size by omega) _
          have hSF := ((HS24.out.belowB hbl (by omega)).belowB hb26 (by omega)).other (o := 22) (v := .slice X15 (t + 1) ev15) (by omega : (w.heap.size + 1) < (w.heap.size + 1 + 1))
          have hsetF := heap_setCell_same w26 (w.heap.size + 1 + 1) 22 _ _ (.slice X15 (t + 1) ev15) hg26G
          have hoF := ownsRow_setCell_below ho26 (show w.heap.size + 1 + 1 < w3.heap.size by omega) (.slice X15 (t + 1) ev15) (a := ⟨w.heap.size + 1 + 1, 22, none⟩)
          have hTF := ((HT24.out.below (hbl.mono (by omega))).below hb26).trans (Two.of2 (p := (w.heap.size + 1)) (grown_set w26 (w.heap.size + 1 + 1) 22 (.slice X15 (t + 1) ev15)))
          have hVF := VtsO.snoc (v := ((b0 : Int), (b1 : Int), vc, vn)) (cs := [.int .i64 (b0 : Int), .int .i64 (b1 : Int), .int .i64 vc.id, .int .i64 vc.kind, .string vc.key, .int .i64 vc.blob, .int .i64 vc.other, .int .i64 vc.index, .int .i64 vc.node, .int .i64 vc.size, .int .u32 vc.sum, .int .i64 vc.k, .int .i64 vc.m, .slice Pv vn.length ev']) ⟨Pv, ev', rfl, fk _ _ _ HNV24.out, hvl, HVS.out⟩ _ _ (VtsO.map fk _ _ HVO24.out)
          have hstp : StepG (numsR 1152921504606846976 2) sl [b0, b1] s21 := (StepG.nil.snoc H20.out).snoc H21.out
          exact ⟨⟨t + 1, V ++ [((b0 : Int), (b1 : Int), vc, vn)], s23, X15, ev15, us ++ [.int .i64 (b0 : Int), .int .i64 (b1 : Int), .int .i64 vc.id, .int .i64 vc.kind, .string vc.key, .int .i64 vc.blob, .int .i64 vc.other, .int .i64 vc.index, .int .i64 vc.node, .int .i64 vc.size, .int .u32 vc.sum, .int .i64 vc.k, .int .i64 vc.m, .slice Pv vn.length ev'], by omega, by go_num, by simp [hVl], Lib.hid (StepG.vote HV.out hstp H23.out), hSF, Lib.hid hsetF, hoF, Lib.hid hVF, hTF, fk _ _ _ HCO24.out⟩, by simp [intOf]; omega⟩
        · obtain rfl : nn = t := by omega
          subst hVl
          go_wp2_with fail
          have hD : Below wr.heap.size wr wr.drew := (belowN 1 : Below wr.heap.size wr (wr.drewN 1))
          have hSD := hS.belowB hD (by omega)
          have HGD := Lib.hid ((hD.block (w.heap.size + 1 + 1) (by omega)).trans HG.out)
          have HRD := Lib.hid ((hD.block w.heap.size (by omega)).trans ((hT.block w.heap.size (by omega) (by omega) (by omega)).trans HR3.out))
          have HVD := Lib.hid (own_below hvo hD)
          have HVOD := Lib.hid (VtsO.map (fun v n xs h => own_below h hD) _ _ HVO.out)
          have HCD := Lib.hid (own_below hco hD)
          have HTD := Lib.hid (hT.below (hD.mono hzr))
          have hzD : w3.heap.size ≤ wr.drew.heap.size := Nat.le_trans hzr hD.size
          refine wp_region_held_drew (S := fun _ => True) (by kernel_rfl) trivial (fun _ => ?_)
          generalize wr.drew = WD at *
          clear hD hS HG hvo HVO hco hT
          have c23D := cell_of_row _ _ 23 _ _ (0, 0) HGD.out
          simp only [List.getElem?_toArray, List.getElem?_cons_succ, List.getElem?_cons_zero] at c23D
          have HN30 := Lib.hid (rlistS_calls (most := 2000) hSD (by decide))
          clear hSD
          refine wpAnyH_take (i := 0) (v := ?_) rfl (by kernel_rfl) (by kernel_rfl) (by kernel_rfl) (fun _ _ _ h => h) (Or.inl ⟨by rfl, ?_⟩) (by assumption) ?_; rotate_left; (intro w hSw; (try dsimp only at hSw); go_simp; (first | done | (with_reducible rfl))); (try simp only [List.getElem_toArray, List.getElem_cons_succ, List.getElem_cons_zero, Act.put, List.setIfInBounds_toArray, List.set_cons_zero, List.set_cons_succ])
          refine wpAnyH_take (i := 2) (v := ?_) rfl (by kernel_rfl) (by kernel_rfl) (by kernel_rfl) (fun _ _ _ h => h) (Or.inl ⟨by rfl, ?_⟩) (by assumption) ?_; rotate_left; (intro w hSw; (try dsimp only at hSw); go_simp; (first | done | (with_reducible rfl))); (try simp only [List.getElem_toArray, List.getElem_cons_succ, List.getElem_cons_zero, Act.put, List.setIfInBounds_toArray, List.set_cons_zero, List.set_cons_succ])
          refine wpAnyH_take (i := 3) (v := ?_) rfl (by kernel_rfl) (by kernel_rfl) (by kernel_rfl) (fun _ _ _ h => h) (Or.inl ⟨by rfl, ?_⟩) (by assumption) ?_; rotate_left; (intro w hSw; (try dsimp only at hSw); go_simp; (first | done | (with_reducible rfl))); (try simp only [List.getElem_toArray, List.getElem_cons_succ, List.getElem_cons_zero, Act.put, List.setIfInBounds_toArray, List.set_cons_zero, List.set_cons_succ])
          refine wpAnyH_ready (rs := [1, 4]) (by kernel_rfl) (by simp) ?_
          refine AllReadyH.cons rfl (fun KK hKK => ?_) (AllReadyH.cons rfl (fun KK hKK => ?_) AllReadyH.nil)
          · skip
            go_simp
            go_wp2_with fail
            refine hKK.out _ _ trivial (fun _ => ?_)
            clear hKK KK
            (try simp only [List.getElem_toArray, List.getElem_cons_succ, List.getElem_cons_zero, Act.put, List.setIfInBounds_toArray, List.set_cons_zero, List.set_cons_succ])
            refine wpAnyH_ready (rs := [4]) (by kernel_rfl) (by simp) ?_; refine AllReadyH.cons rfl (fun KK hKK => ?_) AllReadyH.nil
            go_simp
            refine HN30.out.mono ?_
            rintro e w31 ⟨kk, s30, rfl, hS31, hgr31, hstep, hkk⟩
            have H30 := Lib.hid (show StepG (numR 2000) sl kk s30 from hstep)
            have hz31 := hgr31.size
            have hg31 := (hgr31.block (w.heap.size + 1 + 1) (by omega) (by intro he; injection he with he; omega)).trans HGD.out
            have c23a := cell_of_row _ _ 23 _ _ (0, 0) hg31
            simp only [List.getElem?_toArray, List.getElem?_cons_succ, List.getElem?_cons_zero] at c23a
            have HG31 := Lib.hid hg31
            have HGR31 := Lib.hid hgr31
            have HN31 := Lib.hid (rtakeS_calls hS31 kk)
            clear hstep hgr31 hg31 HN30 hS31
            go_wp2_with fail
            refine hKK.out _ _ trivial (fun _ => ?_)
            clear hKK KK
            (try simp only [List.getElem_toArray, List.getElem_cons_succ, List.getElem_cons_zero, Act.put, List.setIfInBounds_toArray, List.set_cons_zero, List.set_cons_succ])
            refine wpAnyH_ready (rs := [5]) (by kernel_rfl) (by simp) ?_; refine AllReadyH.cons rfl (fun KK hKK => ?_) AllReadyH.nil
            go_simp
            refine HN31.out.mono ?_
            rintro e w32 ⟨A32, c32, bs, s31, rfl, hA32, hfar32, hnil32, hS32, hgr32, hstep, hlt32, hcap32⟩
            have H31 := Lib.hid (show StepG (takeR kk) s30 bs s31 from hstep)
            have hz32 := hgr32.size
            have hg32 := (hgr32.block (w.heap.size + 1 + 1) (by omega) (by intro he; injection he with he; omega)).trans HG31.out
            have c23b := cell_of_row _ _ 23 _ _ (0, 0) hg32
            simp only [List.getElem?_toArray, List.getElem?_cons_succ, List.getElem?_cons_zero] at c23b
            have HG32 := Lib.hid hg32
            have HGR32 := Lib.hid hgr32
            have HS32 := Lib.hid hS32
            clear hstep hgr32 hg32 HN31 hS32 HG31
            go_wp2_with fail
            refine hKK.out _ _ trivial (fun _ => ?_)
            clear hKK KK
            (try simp only [List.getElem_toArray, List.getElem_cons_succ, List.getElem_cons_zero, Act.put, List.setIfInBounds_toArray, List.set_cons_zero, List.set_cons_succ])
            refine wpAnyH_ready (rs := [6]) (by kernel_rfl) (by simp) ?_; refine AllReadyH.cons rfl (fun KK hKK => ?_) AllReadyH.nil
            have hsz32 : w3.heap.size ≤ w32.heap.size := by omega
            refine step_app_bytes rfl (.tmp 81) (.tmp 85) rfl w3.heap.size (v := .slice none 0 0) (n := 0) (xs := []) rfl (World.ownsRow_nil _ _ _ _ : w32.ownsRow w3.heap.size 5 1 (.slice none 0 0) 0 (bys [])) rfl (news := bs) rfl hA32 hnil32 (by omega) hsz32 ?_
            intro A33 c33 w33 ho33 hb33 hg33 hcap33
            have hgq33 := hg33.1
            clear hg33
            rw [List.nil_append, Nat.zero_add] at ho33
            rw [Nat.zero_add]
            have hg33G := (hb33.block (w.heap.size + 1 + 1) (by omega)).trans HG32.out
            have c23 := cell_of_row _ _ 23 _ _ (0, 0) hg33G
            have f23 := frozen_of_row _ _ 23 _ _ hg33G
            simp only [List.getElem?_toArray, List.getElem?_cons_succ, List.getElem?_cons_zero] at c23
            clear hA32 hfar32 hnil32 c23a c23b c23D hcap33 hcap32
            refine hKK.out _ _ trivial (fun _ => ?_)
            clear hKK KK
            (try simp only [List.getElem_toArray, List.getElem_cons_succ, List.getElem_cons_zero, Act.put, List.setIfInBounds_toArray, List.set_cons_zero, List.set_cons_succ])
            refine wpAnyH_take (i := 7) (v := ?_) rfl (by kernel_rfl) (by kernel_rfl) (by kernel_rfl) (fun _ _ _ h => h) (Or.inl ⟨by rfl, ?_⟩) (by assumption) ?_; rotate_left; (intro w hSw; (try dsimp only at hSw); go_simp; (first | done | (with_reducible rfl))); (try simp only [List.getElem_toArray, List.getElem_cons_succ, List.getElem_cons_zero, Act.put, List.setIfInBounds_toArray, List.set_cons_zero, List.set_cons_succ])
            refine wpAnyH_ready (rs := [8]) (by kernel_rfl) (by simp) ?_; refine AllReadyH.cons rfl (fun KK hKK => ?_) AllReadyH.nil
            go_simp
            go_wp2_with fail
            refine hKK.out _ _ trivial (fun _ => ?_)
            clear hKK KK
            (try simp only [List.getElem_toArray, List.getElem_cons_succ, List.getElem_cons_zero, Act.put, List.setIfInBounds_toArray, List.set_cons_zero, List.set_cons_succ])
            refine wpAnyH_done (by kernel_rfl) ?_ _
            have hset34 := heap_setCell_same w33 (w.heap.size + 1 + 1) 23 _ _ (.slice A33 bs.length c33) hg33G
            have hg34 : (w33.setCell ⟨w.heap.size + 1 + 1, 23, none⟩ (.slice A33 bs.length c33)).heap[w.heap.size + 1 + 1]? = some (.cells #[.int .i64 h11m.kind, .int .i64 h11m.frm, .int .i64 h11m.to, .int .i64 h11m.ballot, .int .i64 h11m.slot, .int .i64 h11m.blob, .int .i64 h11m.index, .int .i64 h11m.epoch, .int .i64 h11m.id, .bool h11m.ok, .int .i64 h11m.cmd.id, .int .i64 h11m.cmd.kind, .string h11m.cmd.key, .int .i64 h11m.cmd.blob, .int .i64 h11m.cmd.other, .int .i64 h11m.cmd.index, .int .i64 h11m.cmd.node, .int .i64 h11m.cmd.size, .int .u32 h11m.cmd.sum, .int .i64 h11m.cmd.k, .int .i64 h11m.cmd.m, .slice P cn.length e', .slice X V.length ev, .slice A33 bs.length c33] 40 (0, 0)) := hset34
            have hr33 := (hb33.block w.heap.size (by omega)).trans ((HGR32.out.block w.heap.size (by omega) (by intro he; injection he with he; omega)).trans ((HGR31.out.block w.heap.size (by omega) (by intro he; injection he with he; omega)).trans HRD.out))
            have hr34 := (heap_setCell_other w33 ⟨w.heap.size + 1 + 1, 23, none⟩ w.heap.size (.slice A33 bs.length c33) (by simp; omega)).trans hr33
            have hS34 := (HS32.out.belowB hb33 (by omega)).other (o := 23) (v := .slice A33 bs.length c33) (by omega : (w.heap.size + 1) < (w.heap.size + 1 + 1))
            have hT34 := (((HTD.out.trans (Two.of1 HGR31.out)).trans (Two.of1 HGR32.out)).below hb33).trans (Two.of2 (p := (w.heap.size + 1)) (grown_set w33 (w.heap.size + 1 + 1) 23 (.slice A33 bs.length c33)))
            have fk : ∀ T sz v n xs, WD.ownsRow w3.heap.size T sz v n xs → T ≠ 5 → (w33.setCell ⟨w.heap.size + 1 + 1, 23, none⟩ (.slice A33 bs.length c33)).ownsRow w3.heap.size T sz v n xs := fun T sz v n xs h hT =>
              ownsRow_setCell_below (own_app (own_keep (own_keep h HGR31.out (by omega)) HGR32.out (by omega)) hgq33) (show w.heap.size + 1 + 1 < w3.heap.size by omega) _
            have ho34 := ownsRow_setCell_below ho33 (show w.heap.size + 1 + 1 < w3.heap.size by omega) (.slice A33 bs.length c33) (a := ⟨w.heap.size + 1 + 1, 23, none⟩)
            have hMO : MgOwn (w33.setCell ⟨w.heap.size + 1 + 1, 23, none⟩ (.slice A33 bs.length c33)) w3.heap.size P e' X ev A33 c33 ⟨h11m, cn, V, bs⟩ :=
              ⟨fk _ _ _ _ _ HCD.out (by decide), hcl, ⟨us, fk _ _ _ _ _ HVD.out (by decide), VtsO.map (fun v n xs h => fk _ _ v n xs h (by decide)) _ _ HVOD.out⟩, hnn, ho34, by simp only; omega, by rw [show (⟨h11m, cn, V, bs⟩ : Mg).h.cmd = cc by show h11m.cmd = cc; rw [HH11.out]; rfl]; exact HSM.out⟩
            have HP : Hid (StepG partsM (some l) ([m1, m2, m3, m4, m5, m6, m7, m8, m9], okv, (cc, cn), V.length, V, kk, bs) s31) := by
              show StepG partsM _ _ _
              unfold partsM
              exact HNUM.out.then' (H11.out.then' (H12.out.then' (H13.out.then' (HV.out.then' (H30.out.then' H31.out)))))
            have hmk : Hid (mkM [m1, m2, m3, m4, m5, m6, m7, m8, m9] okv cc cn V bs = ⟨h11m, cn, V, bs⟩) := by show _ = _; rw [HH11.out, HH10.out]; rfl
            have hz34 : w3.heap.size ≤ (w33.setCell ⟨w.heap.size + 1 + 1, 23, none⟩ (.slice A33 bs.length c33)).heap.size := by simp; have := hb33.size; omega
            clear hset34 hr33 hg33G c23 f23 ho33 ho34 hb33 fk HGR31 HGR32 HVD HVOD HCD HGD HRD HTD HNUM H11 H12 H13 HV H30 H31 HH11 HH10 HG32 HS32
            generalize w33.setCell ⟨w.heap.size + 1 + 1, 23, none⟩ (.slice A33 bs.length c33) = w34 at *
            have hatM : At w34 (some ⟨w.heap.size + 1 + 1, 0, none⟩) [.int .i64 h11m.kind, .int .i64 h11m.frm, .int .i64 h11m.to, .int .i64 h11m.ballot, .int .i64 h11m.slot, .int .i64 h11m.blob, .int .i64 h11m.index, .int .i64 h11m.epoch, .int .i64 h11m.id, .bool h11m.ok, .int .i64 h11m.cmd.id, .int .i64 h11m.cmd.kind, .string h11m.cmd.key, .int .i64 h11m.cmd.blob, .int .i64 h11m.cmd.other, .int .i64 h11m.cmd.index, .int .i64 h11m.cmd.node, .int .i64 h11m.cmd.size, .int .u32 h11m.cmd.sum, .int .i64 h11m.cmd.k, .int .i64 h11m.cmd.m, .slice P cn.length e', .slice X V.length ev, .slice A33 bs.length c33] := at_cells hg34
            have HMM := Lib.hid (rmayMsg_calls (e := ev) hMO.at)
            simp only at HMM
            have HMO := Lib.hid hMO
            have HG34 := Lib.hid hg34
            have HB34 := Lib.hid (below_two HB3.out hT34 (by omega))
            clear hMO hg34 hT34
            obtain ⟨hfc, hff⟩ := hS34.flag
            cases s31 with
            | none =>
              have hon : Hid (oneM l = none) := oneM_none HP.out (.inl rfl)
              simp only [Option.isNone_none] at hfc
              clear hS34
              go_wp2_with (first
                | (refine wpList_put_at rfl 40 (.tmp 2) (.tmp 105) rfl w.heap.size 0 [.int .i64 zeroM.kind, .int .i64 zeroM.frm, .int .i64 zeroM.to, .int .i64 zeroM.ballot, .int .i64 zeroM.slot, .int .i64 zeroM.blob, .int .i64 zeroM.index, .int .i64 zeroM.epoch, .int .i64 zeroM.id, .bool zeroM.ok, .int .i64 zeroM.cmd.id, .int .i64 zeroM.cmd.kind, .string zeroM.cmd.key, .int .i64 zeroM.cmd.blob, .int .i64 zeroM.cmd.other, .int .i64 zeroM.cmd.index, .int .i64 zeroM.cmd.node, .int .i64 zeroM.cmd.size, .int .u32 zeroM.cmd.sum, .int .i64 zeroM.cmd.k, .int .i64 zeroM.cmd.m, .slice none 0 0, .slice none 0 0, .slice none 0 0] rfl rfl 40 _ #[.int .i64 zeroM.kind, .int .i64 zeroM.frm, .int .i64 zeroM.to, .int .i64 zeroM.ballot, .int .i64 zeroM.slot, .int .i64 zeroM.blob, .int .i64 zeroM.index, .int .i64 zeroM.epoch, .int .i64 zeroM.id, .bool zeroM.ok, .int .i64 zeroM.cmd.id, .int .i64 zeroM.cmd.kind, .string zeroM.cmd.key, .int .i64 zeroM.cmd.blob, .int .i64 zeroM.cmd.other, .int .i64 zeroM.cmd.index, .int .i64 zeroM.cmd.node, .int .i64 zeroM.cmd.size, .int .u32 zeroM.cmd.sum, .int .i64 zeroM.cmd.k, .int .i64 zeroM.cmd.m, .slice none 0 0, .slice none 0 0, .slice none 0 0] hr34 (by kernel_rfl) (by show (24 : Nat) ≤ 24; decide) (msg_one zeroM none none none 0 0 0 0 0 0) rfl ?_; intro w40 hgr40 hg40))
              refine bodyPost_ret (results_row_tmp rfl _ _ w.heap.size 40 #[.int .i64 zeroM.kind, .int .i64 zeroM.frm, .int .i64 zeroM.to, .int .i64 zeroM.ballot, .int .i64 zeroM.slot, .int .i64 zeroM.blob, .int .i64 zeroM.index, .int .i64 zeroM.epoch, .int .i64 zeroM.id, .bool zeroM.ok, .int .i64 zeroM.cmd.id, .int .i64 zeroM.cmd.kind, .string zeroM.cmd.key, .int .i64 zeroM.cmd.blob, .int .i64 zeroM.cmd.other, .int .i64 zeroM.cmd.index, .int .i64 zeroM.cmd.node, .int .i64 zeroM.cmd.size, .int .u32 zeroM.cmd.sum, .int .i64 zeroM.cmd.k, .int .i64 zeroM.cmd.m, .slice none 0 0, .slice none 0 0, .slice none 0 0] (0, 0) _ rfl hg40 Try.underlying40 rfl (by kernel_rfl)) rfl ?_
              exact ⟨none, 0, none, 0, none, 0, by rw [hon.out]; rfl, HB34.out.trans ⟨hgr40.os, hgr40.tape, hgr40.output, hgr40.size, fun k hk => hgr40.block k (by have := (HB34.out).size; omega) (by intro he; injection he with he; omega)⟩, by rw [hon.out]; exact mgown_zero _ _⟩
            | some rr =>
              simp only [Option.isNone_some] at hfc
              obtain ⟨A5, c5, hR5⟩ := hS34
              have hb0 := cell_of_row _ _ 0 _ _ (0, 0) hR5.hd
              simp only [List.getElem?_toArray, List.getElem?_cons_succ, List.getElem?_cons_zero] at hb0
              clear hR5
              cases rr with
              | cons y rr =>
                have hon : Hid (oneM l = none) := oneM_none HP.out (.inr (.inl ⟨y, rr, rfl⟩))
                simp only [List.length_cons] at hb0
                have hpos : (0 : Int) < ((rr.length + 1 : Nat) : Int) := by omega
                go_wp2_with (first
                  | (refine wpList_put_at rfl 40 (.tmp 2) (.tmp 105) rfl w.heap.size 0 [.int .i64 zeroM.kind, .int .i64 zeroM.frm, .int .i64 zeroM.to, .int .i64 zeroM.ballot, .int .i64 zeroM.slot, .int .i64 zeroM.blob, .int .i64 zeroM.index, .int .i64 zeroM.epoch, .int .i64 zeroM.id, .bool zeroM.ok, .int .i64 zeroM.cmd.id, .int .i64 zeroM.cmd.kind, .string zeroM.cmd.key, .int .i64 zeroM.cmd.blob, .int .i64 zeroM.cmd.other, .int .i64 zeroM.cmd.index, .int .i64 zeroM.cmd.node, .int .i64 zeroM.cmd.size, .int .u32 zeroM.cmd.sum, .int .i64 zeroM.cmd.k, .int .i64 zeroM.cmd.m, .slice none 0 0, .slice none 0 0, .slice none 0 0] rfl rfl 40 _ #[.int .i64 zeroM.kind, .int .i64 zeroM.frm, .int .i64 zeroM.to, .int .i64 zeroM.ballot, .int .i64 zeroM.slot, .int .i64 zeroM.blob, .int .i64 zeroM.index, .int .i64 zeroM.epoch, .int .i64 zeroM.id, .bool zeroM.ok, .int .i64 zeroM.cmd.id, .int .i64 zeroM.cmd.kind, .string zeroM.cmd.key, .int .i64 zeroM.cmd.blob, .int .i64 zeroM.cmd.other, .int .i64 zeroM.cmd.index, .int .i64 zeroM.cmd.node, .int .i64 zeroM.cmd.size, .int .u32 zeroM.cmd.sum, .int .i64 zeroM.cmd.k, .int .i64 zeroM.cmd.m, .slice none 0 0, .slice none 0 0, .slice none 0 0] hr34 (by kernel_rfl) (by show (24 : Nat) ≤ 24; decide) (msg_one zeroM none none none 0 0 0 0 0 0) rfl ?_; intro w40 hgr40 hg40))
                refine bodyPost_ret (results_row_tmp rfl _ _ w.heap.size 40 #[.int .i64 zeroM.kind, .int .i64 zeroM.frm, .int .i64 zeroM.to, .int .i64 zeroM.ballot, .int .i64 zeroM.slot, .int .i64 zeroM.blob, .int .i64 zeroM.index, .int .i64 zeroM.epoch, .int .i64 zeroM.id, .bool zeroM.ok, .int .i64 zeroM.cmd.id, .int .i64 zeroM.cmd.kind, .string zeroM.cmd.key, .int .i64 zeroM.cmd.blob, .int .i64 zeroM.cmd.other, .int .i64 zeroM.cmd.index, .int .i64 zeroM.cmd.node, .int .i64 zeroM.cmd.size, .int .u32 zeroM.cmd.sum, .int .i64 zeroM.cmd.k, .int .i64 zeroM.cmd.m, .slice none 0 0, .slice none 0 0, .slice none 0 0] (0, 0) _ rfl hg40 Try.underlying40 rfl (by kernel_rfl)) rfl ?_
                exact ⟨none, 0, none, 0, none, 0, by rw [hon.out]; rfl, HB34.out.trans ⟨hgr40.os, hgr40.tape, hgr40.output, hgr40.size, fun k hk => hgr40.block k (by have := (HB34.out).size; omega) (by intro he; injection he with he; omega)⟩, by rw [hon.out]; exact mgown_zero _ _⟩
              | nil =>
                simp only [List.length_nil] at hb0
                go_wp2_with (refine load_atG (by rfl) 40 (.tmp 5) rfl rfl hatM Try.underlying40 rfl (by kernel_rfl) ?_)
                refine HMM.out.mono ?_
                rintro e w35 ⟨rfl, hb35⟩
                have hz35 := hb35.size
                have hr35 := (hb35.block w.heap.size (by omega)).trans hr34
                have hatN : At w35 (some ⟨w.heap.size + 1 + 1, 0, none⟩) [.int .i64 h11m.kind, .int .i64 h11m.frm, .int .i64 h11m.to, .int .i64 h11m.ballot, .int .i64 h11m.slot, .int .i64 h11m.blob, .int .i64 h11m.index, .int .i64 h11m.epoch, .int .i64 h11m.id, .bool h11m.ok, .int .i64 h11m.cmd.id, .int .i64 h11m.cmd.kind, .string h11m.cmd.key, .int .i64 h11m.cmd.blob, .int .i64 h11m.cmd.other, .int .i64 h11m.cmd.index, .int .i64 h11m.cmd.node, .int .i64 h11m.cmd.size, .int .u32 h11m.cmd.sum, .int .i64 h11m.cmd.k, .int .i64 h11m.cmd.m, .slice P cn.length e', .slice X V.length ev, .slice A33 bs.length c33] := at_cells ((hb35.block (w.heap.size + 1 + 1) (by omega)).trans HG34.out)
                have HB35 := Lib.hid (HB34.out.trans (hb35.mono (by omega)))
                have HMO35 := Lib.hid (HMO.out.map (fun T sz v n xs h => own_below h hb35))
                clear HMM hatM hb35 HB34 HMO HG34
                generalize hmay : mayM ⟨h11m, cn, V, bs⟩ = may at *
                have HMAY := Lib.hid hmay
                clear hmay
                cases may with
                | false =>
                  have hon : Hid (oneM l = none) := oneM_none HP.out (.inr (.inr (by rw [hmk.out]; exact HMAY.out)))
                  go_wp2_with (first
                    | (refine wpList_put_at rfl 40 (.tmp 2) (.tmp 105) rfl w.heap.size 0 [.int .i64 zeroM.kind, .int .i64 zeroM.frm, .int .i64 zeroM.to, .int .i64 zeroM.ballot, .int .i64 zeroM.slot, .int .i64 zeroM.blob, .int .i64 zeroM.index, .int .i64 zeroM.epoch, .int .i64 zeroM.id, .bool zeroM.ok, .int .i64 zeroM.cmd.id, .int .i64 zeroM.cmd.kind, .string zeroM.cmd.key, .int .i64 zeroM.cmd.blob, .int .i64 zeroM.cmd.other, .int .i64 zeroM.cmd.index, .int .i64 zeroM.cmd.node, .int .i64 zeroM.cmd.size, .int .u32 zeroM.cmd.sum, .int .i64 zeroM.cmd.k, .int .i64 zeroM.cmd.m, .slice none 0 0, .slice none 0 0, .slice none 0 0] rfl rfl 40 _ #[.int .i64 zeroM.kind, .int .i64 zeroM.frm, .int .i64 zeroM.to, .int .i64 zeroM.ballot, .int .i64 zeroM.slot, .int .i64 zeroM.blob, .int .i64 zeroM.index, .int .i64 zeroM.epoch, .int .i64 zeroM.id, .bool zeroM.ok, .int .i64 zeroM.cmd.id, .int .i64 zeroM.cmd.kind, .string zeroM.cmd.key, .int .i64 zeroM.cmd.blob, .int .i64 zeroM.cmd.other, .int .i64 zeroM.cmd.index, .int .i64 zeroM.cmd.node, .int .i64 zeroM.cmd.size, .int .u32 zeroM.cmd.sum, .int .i64 zeroM.cmd.k, .int .i64 zeroM.cmd.m, .slice none 0 0, .slice none 0 0, .slice none 0 0] hr35 (by kernel_rfl) (by show (24 : Nat) ≤ 24; decide) (msg_one zeroM none none none 0 0 0 0 0 0) rfl ?_; intro w40 hgr40 hg40))
                  refine bodyPost_ret (results_row_tmp rfl _ _ w.heap.size 40 #[.int .i64 zeroM.kind, .int .i64 zeroM.frm, .int .i64 zeroM.to, .int .i64 zeroM.ballot, .int .i64 zeroM.slot, .int .i64 zeroM.blob, .int .i64 zeroM.index, .int .i64 zeroM.epoch, .int .i64 zeroM.id, .bool zeroM.ok, .int .i64 zeroM.cmd.id, .int .i64 zeroM.cmd.kind, .string zeroM.cmd.key, .int .i64 zeroM.cmd.blob, .int .i64 zeroM.cmd.other, .int .i64 zeroM.cmd.index, .int .i64 zeroM.cmd.node, .int .i64 zeroM.cmd.size, .int .u32 zeroM.cmd.sum, .int .i64 zeroM.cmd.k, .int .i64 zeroM.cmd.m, .slice none 0 0, .slice none 0 0, .slice none 0 0] (0, 0) _ rfl hg40 Try.underlying40 rfl (by kernel_rfl)) rfl ?_
                  exact ⟨none, 0, none, 0, none, 0, by rw [hon.out]; rfl, HB35.out.trans ⟨hgr40.os, hgr40.tape, hgr40.output, hgr40.size, fun k hk => hgr40.block k (by have := (HB35.out).size; omega) (by intro he; injection he with he; omega)⟩, by rw [hon.out]; exact mgown_zero _ _⟩
                | true =>
                  have hon : Hid (oneM l = some ⟨h11m, cn, V, bs⟩) := by
                    have := oneM_good HP.out (by rw [hmk.out]; exact HMAY.out)
                    rw [hmk.out] at this
                    exact this
                  go_wp2_with (first
                    | (refine wpList_load_at rfl 40 (.tmp 5) rfl rfl hatN Try.underlying40 rfl (by kernel_rfl) ?_)
                    | (refine wpList_put_at rfl 40 (.tmp 2) (.tmp 106) rfl w.heap.size 0 [.int .i64 h11m.kind, .int .i64 h11m.frm, .int .i64 h11m.to, .int .i64 h11m.ballot, .int .i64 h11m.slot, .int .i64 h11m.blob, .int .i64 h11m.index, .int .i64 h11m.epoch, .int .i64 h11m.id, .bool h11m.ok, .int .i64 h11m.cmd.id, .int .i64 h11m.cmd.kind, .string h11m.cmd.key, .int .i64 h11m.cmd.blob, .int .i64 h11m.cmd.other, .int .i64 h11m.cmd.index, .int .i64 h11m.cmd.node, .int .i64 h11m.cmd.size, .int .u32 h11m.cmd.sum, .int .i64 h11m.cmd.k, .int .i64 h11m.cmd.m, .slice P cn.length e', .slice X V.length ev, .slice A33 bs.length c33] rfl rfl 40 _ #[.int .i64 h11m.kind, .int .i64 h11m.frm, .int .i64 h11m.to, .int .i64 h11m.ballot, .int .i64 h11m.slot, .int .i64 h11m.blob, .int .i64 h11m.index, .int .i64 h11m.epoch, .int .i64 h11m.id, .bool h11m.ok, .int .i64 h11m.cmd.id, .int .i64 h11m.cmd.kind, .string h11m.cmd.key, .int .i64 h11m.cmd.blob, .int .i64 h11m.cmd.other, .int .i64 h11m.cmd.index, .int .i64 h11m.cmd.node, .int .i64 h11m.cmd.size, .int .u32 h11m.cmd.sum, .int .i64 h11m.cmd.k, .int .i64 h11m.cmd.m, .slice P cn.length e', .slice X V.length ev, .slice A33 bs.length c33] hr35 (by kernel_rfl) (by show (24 : Nat) ≤ 24; decide) (msg_one h11m P X A33 cn.length e' V.length ev bs.length c33) rfl ?_; intro w40 hgr40 hg40))
                  refine bodyPost_ret (results_row_tmp rfl _ _ w.heap.size 40 #[.int .i64 h11m.kind, .int .i64 h11m.frm, .int .i64 h11m.to, .int .i64 h11m.ballot, .int .i64 h11m.slot, .int .i64 h11m.blob, .int .i64 h11m.index, .int .i64 h11m.epoch, .int .i64 h11m.id, .bool h11m.ok, .int .i64 h11m.cmd.id, .int .i64 h11m.cmd.kind, .string h11m.cmd.key, .int .i64 h11m.cmd.blob, .int .i64 h11m.cmd.other, .int .i64 h11m.cmd.index, .int .i64 h11m.cmd.node, .int .i64 h11m.cmd.size, .int .u32 h11m.cmd.sum, .int .i64 h11m.cmd.k, .int .i64 h11m.cmd.m, .slice P cn.length e', .slice X V.length ev, .slice A33 bs.length c33] (0, 0) _ rfl hg40 Try.underlying40 rfl (by kernel_rfl)) rfl ?_
                  exact ⟨P, e', X, ev, A33, c33, by rw [hon.out]; rfl, HB35.out.trans ⟨hgr40.os, hgr40.tape, hgr40.output, hgr40.size, fun k hk => hgr40.block k (by have := HB35.out.size; omega) (by intro he; injection he with he; omega)⟩, by rw [hon.out]; exact (HMO35.out.map (fun T sz v n xs h => own_keep h hgr40 (by omega))).lower (by omega)⟩
          · go_simp
            refine HN30.out.mono ?_
            rintro e w31 ⟨kk, s30, rfl, hS31, hgr31, hstep, hkk⟩
            have H30 := Lib.hid (show StepG (numR 2000) sl kk s30 from hstep)
            have hz31 := hgr31.size
            have hg31 := (hgr31.block (w.heap.size + 1 + 1) (by omega) (by intro he; injection he with he; omega)).trans HGD.out
            have c23a := cell_of_row _ _ 23 _ _ (0, 0) hg31
            simp only [List.getElem?_toArray, List.getElem?_cons_succ, List.getElem?_cons_zero] at c23a
            have HG31 := Lib.hid hg31
            have HGR31 := Lib.hid hgr31
            have HN31 := Lib.hid (rtakeS_calls hS31 kk)
            clear hstep hgr31 hg31 HN30 hS31
            go_wp2_with fail
            refine hKK.out _ _ trivial (fun _ => ?_)
            clear hKK KK
            (try simp only [List.getElem_toArray, List.getElem_cons_succ, List.getElem_cons_zero, Act.put, List.setIfInBounds_toArray, List.set_cons_zero, List.set_cons_succ])
            refine wpAnyH_ready (rs := [1, 5]) (by kernel_rfl) (by simp) ?_
            refine AllReadyH.cons rfl (fun KK hKK => ?_) (AllReadyH.cons rfl (fun KK hKK => ?_) AllReadyH.nil)
            · skip
              go_simp
              go_wp2_with fail
              refine hKK.out _ _ trivial (fun _ => ?_)
              clear hKK KK
              (try simp only [List.getElem_toArray, List.getElem_cons_succ, List.getElem_cons_zero, Act.put, List.setIfInBounds_toArray, List.set_cons_zero, List.set_cons_succ])
              refine wpAnyH_ready (rs := [5]) (by kernel_rfl) (by simp) ?_; refine AllReadyH.cons rfl (fun KK hKK => ?_) AllReadyH.nil
              go_simp
              refine HN31.out.mono ?_
              rintro e w32 ⟨A32, c32, bs, s31, rfl, hA32, hfar32, hnil32, hS32, hgr32, hstep, hlt32, hcap32⟩
              have H31 := Lib.hid (show StepG (takeR kk) s30 bs s31 from hstep)
              have hz32 := hgr32.size
              have hg32 := (hgr32.block (w.heap.size + 1 + 1) (by omega) (by intro he; injection he with he; omega)).trans HG31.out
              have c23b := cell_of_row _ _ 23 _ _ (0, 0) hg32
              simp only [List.getElem?_toArray, List.getElem?_cons_succ, List.getElem?_cons_zero] at c23b
              have HG32 := Lib.hid hg32
              have HGR32 := Lib.hid hgr32
              have HS32 := Lib.hid hS32
              clear hstep hgr32 hg32 HN31 hS32 HG31
              go_wp2_with fail
              refine hKK.out _ _ trivial (fun _ => ?_)
              clear hKK KK
              (try simp only [List.getElem_toArray, List.getElem_cons_succ, List.getElem_cons_zero, Act.put, List.setIfInBounds_toArray, List.set_cons_zero, List.set_cons_succ])
              refine wpAnyH_ready (rs := [6]) (by kernel_rfl) (by simp) ?_; refine AllReadyH.cons rfl (fun KK hKK => ?_) AllReadyH.nil
              have hsz32 : w3.heap.size ≤ w32.heap.size := by omega
              refine step_app_bytes rfl (.tmp 81) (.tmp 85) rfl w3.heap.size (v := .slice none 0 0) (n := 0) (xs := []) rfl (World.ownsRow_nil _ _ _ _ : w32.ownsRow w3.heap.size 5 1 (.slice none 0 0) 0 (bys [])) rfl (news := bs) rfl hA32 hnil32 (by omega) hsz32 ?_
              intro A33 c33 w33 ho33 hb33 hg33 hcap33
              have hgq33 := hg33.1
              clear hg33
              rw [List.nil_append, Nat.zero_add] at ho33
              rw [Nat.zero_add]
              have hg33G := (hb33.block (w.heap.size + 1 + 1) (by omega)).trans HG32.out
              have c23 := cell_of_row _ _ 23 _ _ (0, 0) hg33G
              have f23 := frozen_of_row _ _ 23 _ _ hg33G
              simp only [List.getElem?_toArray, List.getElem?_cons_succ, List.getElem?_cons_zero] at c23
              clear hA32 hfar32 hnil32 c23a c23b c23D hcap33 hcap32
              refine hKK.out _ _ trivial (fun _ => ?_)
              clear hKK KK
              (try simp only [List.getElem_toArray, List.getElem_cons_succ, List.getElem_cons_zero, Act.put, List.setIfInBounds_toArray, List.set_cons_zero, List.set_cons_succ])
              refine wpAnyH_take (i := 7) (v := ?_) rfl (by kernel_rfl) (by kernel_rfl) (by kernel_rfl) (fun _ _ _ h => h) (Or.inl ⟨by rfl, ?_⟩) (by assumption) ?_; rotate_left; (intro w hSw; (try dsimp only at hSw); go_simp; (first | done | (with_reducible rfl))); (try simp only [List.getElem_toArray, List.getElem_cons_succ, List.getElem_cons_zero, Act.put, List.setIfInBounds_toArray, List.set_cons_zero, List.set_cons_succ])
              refine wpAnyH_ready (rs := [8]) (by kernel_rfl) (by simp) ?_; refine AllReadyH.cons rfl (fun KK hKK => ?_) AllReadyH.nil
              go_simp
              go_wp2_with fail
              refine hKK.out _ _ trivial (fun _ => ?_)
              clear hKK KK
              (try simp only [List.getElem_toArray, List.getElem_cons_succ, List.getElem_cons_zero, Act.put, List.setIfInBounds_toArray, List.set_cons_zero, List.set_cons_succ])
              refine wpAnyH_done (by kernel_rfl) ?_ _
              have hset34 := heap_setCell_same w33 (w.heap.size + 1 + 1) 23 _ _ (.slice A33 bs.length c33) hg33G
              have hg34 : (w33.setCell ⟨w.heap.size + 1 + 1, 23, none⟩ (.slice A33 bs.length c33)).heap[w.heap.size + 1 + 1]? = some (.cells #[.int .i64 h11m.kind, .int .i64 h11m.frm, .int .i64 h11m.to, .int .i64 h11m.ballot, .int .i64 h11m.slot, .int .i64 h11m.blob, .int .i64 h11m.index, .int .i64 h11m.epoch, .int .i64 h11m.id, .bool h11m.ok, .int .i64 h11m.cmd.id, .int .i64 h11m.cmd.kind, .string h11m.cmd.key, .int .i64 h11m.cmd.blob, .int .i64 h11m.cmd.other, .int .i64 h11m.cmd.index, .int .i64 h11m.cmd.node, .int .i64 h11m.cmd.size, .int .u32 h11m.cmd.sum, .int .i64 h11m.cmd.k, .int .i64 h11m.cmd.m, .slice P cn.length e', .slice X V.length ev, .slice A33 bs.length c33] 40 (0, 0)) := hset34
              have hr33 := (hb33.block w.heap.size (by omega)).trans ((HGR32.out.block w.heap.size (by omega) (by intro he; injection he with he; omega)).trans ((HGR31.out.block w.heap.size (by omega) (by intro he; injection he with he; omega)).trans HRD.out))
              have hr34 := (heap_setCell_other w33 ⟨w.heap.size + 1 + 1, 23, none⟩ w.heap.size (.slice A33 bs.length c33) (by simp; omega)).trans hr33
              have hS34 := (HS32.out.belowB hb33 (by omega)).other (o := 23) (v := .slice A33 bs.length c33) (by omega : (w.heap.size + 1) < (w.heap.size + 1 + 1))
              have hT34 := (((HTD.out.trans (Two.of1 HGR31.out)).trans (Two.of1 HGR32.out)).below hb33).trans (Two.of2 (p := (w.heap.size + 1)) (grown_set w33 (w.heap.size + 1 + 1) 23 (.slice A33 bs.length c33)))
              have fk : ∀ T sz v n xs, WD.ownsRow w3.heap.size T sz v n xs → T ≠ 5 → (w33.setCell ⟨w.heap.size + 1 + 1, 23, none⟩ (.slice A33 bs.length c33)).ownsRow w3.heap.size T sz v n xs := fun T sz v n xs h hT =>
                ownsRow_setCell_below (own_app (own_keep (own_keep h HGR31.out (by omega)) HGR32.out (by omega)) hgq33) (show w.heap.size + 1 + 1 < w3.heap.size by omega) _
              have ho34 := ownsRow_setCell_below ho33 (show w.heap.size + 1 + 1 < w3.heap.size by omega) (.slice A33 bs.length c33) (a := ⟨w.heap.size + 1 + 1, 23, none⟩)
              have hMO : MgOwn (w33.setCell ⟨w.heap.size + 1 + 1, 23, none⟩ (.slice A33 bs.length c33)) w3.heap.size P e' X ev A33 c33 ⟨h11m, cn, V, bs⟩ :=
                ⟨fk _ _ _ _ _ HCD.out (by decide), hcl, ⟨us, fk _ _ _ _ _ HVD.out (by decide), VtsO.map (fun v n xs h => fk _ _ v n xs h (by decide)) _ _ HVOD.out⟩, hnn, ho34, by simp only; omega, by rw [show (⟨h11m, cn, V, bs⟩ : Mg).h.cmd = cc by show h11m.cmd = cc; rw [HH11.out]; rfl]; exact HSM.out⟩
              have HP : Hid (StepG partsM (some l) ([m1, m2, m3, m4, m5, m6, m7, m8, m9], okv, (cc, cn), V.length, V, kk, bs) s31) := by
                show StepG partsM _ _ _
                unfold partsM
                exact HNUM.out.then' (H11.out.then' (H12.out.then' (H13.out.then' (HV.out.then' (H30.out.then' H31.out)))))
              have hmk : Hid (mkM [m1, m2, m3, m4, m5, m6, m7, m8, m9] okv cc cn V bs = ⟨h11m, cn, V, bs⟩) := by show _ = _; rw [HH11.out, HH10.out]; rfl
              have hz34 : w3.heap.size ≤ (w33.setCell ⟨w.heap.size + 1 + 1, 23, none⟩ (.slice A33 bs.length c33)).heap.size := by simp; have := hb33.size; omega
              clear hset34 hr33 hg33G c23 f23 ho33 ho34 hb33 fk HGR31 HGR32 HVD HVOD HCD HGD HRD HTD HNUM H11 H12 H13 HV H30 H31 HH11 HH10 HG32 HS32
              generalize w33.setCell ⟨w.heap.size + 1 + 1, 23, none⟩ (.slice A33 bs.length c33) = w34 at *
              have hatM : At w34 (some ⟨w.heap.size + 1 + 1, 0, none⟩) [.int .i64 h11m.kind, .int .i64 h11m.frm, .int .i64 h11m.to, .int .i64 h11m.ballot, .int .i64 h11m.slot, .int .i64 h11m.blob, .int .i64 h11m.index, .int .i64 h11m.epoch, .int .i64 h11m.id, .bool h11m.ok, .int .i64 h11m.cmd.id, .int .i64 h11m.cmd.kind, .string h11m.cmd.key, .int .i64 h11m.cmd.blob, .int .i64 h11m.cmd.other, .int .i64 h11m.cmd.index, .int .i64 h11m.cmd.node, .int .i64 h11m.cmd.size, .int .u32 h11m.cmd.sum, .int .i64 h11m.cmd.k, .int .i64 h11m.cmd.m, .slice P cn.length e', .slice X V.length ev, .slice A33 bs.length c33] := at_cells hg34
              have HMM := Lib.hid (rmayMsg_calls (e := ev) hMO.at)
              simp only at HMM
              have HMO := Lib.hid hMO
              have HG34 := Lib.hid hg34
              have HB34 := Lib.hid (below_two HB3.out hT34 (by omega))
              clear hMO hg34 hT34
              obtain ⟨hfc, hff⟩ := hS34.flag
              cases s31 with
              | none =>
                have hon : Hid (oneM l = none) := oneM_none HP.out (.inl rfl)
                simp only [Option.isNone_none] at hfc
                clear hS34
                go_wp2_with (first
                  | (refine wpList_put_at rfl 40 (.tmp 2) (.tmp 105) rfl w.heap.size 0 [.int .i64 zeroM.kind, .int .i64 zeroM.frm, .int .i64 zeroM.to, .int .i64 zeroM.ballot, .int .i64 zeroM.slot, .int .i64 zeroM.blob, .int .i64 zeroM.index, .int .i64 zeroM.epoch, .int .i64 zeroM.id, .bool zeroM.ok, .int .i64 zeroM.cmd.id, .int .i64 zeroM.cmd.kind, .string zeroM.cmd.key, .int .i64 zeroM.cmd.blob, .int .i64 zeroM.cmd.other, .int .i64 zeroM.cmd.index, .int .i64 zeroM.cmd.node, .int .i64 zeroM.cmd.size, .int .u32 zeroM.cmd.sum, .int .i64 zeroM.cmd.k, .int .i64 zeroM.cmd.m, .slice none 0 0, .slice none 0 0, .slice none 0 0] rfl rfl 40 _ #[.int .i64 zeroM.kind, .int .i64 zeroM.frm, .int .i64 zeroM.to, .int .i64 zeroM.ballot, .int .i64 zeroM.slot, .int .i64 zeroM.blob, .int .i64 zeroM.index, .int .i64 zeroM.epoch, .int .i64 zeroM.id, .bool zeroM.ok, .int .i64 zeroM.cmd.id, .int .i64 zeroM.cmd.kind, .string zeroM.cmd.key, .int .i64 zeroM.cmd.blob, .int .i64 zeroM.cmd.other, .int .i64 zeroM.cmd.index, .int .i64 zeroM.cmd.node, .int .i64 zeroM.cmd.size, .int .u32 zeroM.cmd.sum, .int .i64 zeroM.cmd.k, .int .i64 zeroM.cmd.m, .slice none 0 0, .slice none 0 0, .slice none 0 0] hr34 (by kernel_rfl) (by show (24 : Nat) ≤ 24; decide) (msg_one zeroM none none none 0 0 0 0 0 0) rfl ?_; intro w40 hgr40 hg40))
                refine bodyPost_ret (results_row_tmp rfl _ _ w.heap.size 40 #[.int .i64 zeroM.kind, .int .i64 zeroM.frm, .int .i64 zeroM.to, .int .i64 zeroM.ballot, .int .i64 zeroM.slot, .int .i64 zeroM.blob, .int .i64 zeroM.index, .int .i64 zeroM.epoch, .int .i64 zeroM.id, .bool zeroM.ok, .int .i64 zeroM.cmd.id, .int .i64 zeroM.cmd.kind, .string zeroM.cmd.key, .int .i64 zeroM.cmd.blob, .int .i64 zeroM.cmd.other, .int .i64 zeroM.cmd.index, .int .i64 zeroM.cmd.node, .int .i64 zeroM.cmd.size, .int .u32 zeroM.cmd.sum, .int .i64 zeroM.cmd.k, .int .i64 zeroM.cmd.m, .slice none 0 0, .slice none 0 0, .slice none 0 0] (0, 0) _ rfl hg40 Try.underlying40 rfl (by kernel_rfl)) rfl ?_
                exact ⟨none, 0, none, 0, none, 0, by rw [hon.out]; rfl, HB34.out.trans ⟨hgr40.os, hgr40.tape, hgr40.output, hgr40.size, fun k hk => hgr40.block k (by have := (HB34.out).size; omega) (by intro he; injection he with he; omega)⟩, by rw [hon.out]; exact mgown_zero _ _⟩
              | some rr =>
                simp only [Option.isNone_some] at hfc
                obtain ⟨A5, c5, hR5⟩ := hS34
                have hb0 := cell_of_row _ _ 0 _ _ (0, 0) hR5.hd
                simp only [List.getElem?_toArray, List.getElem?_cons_succ, List.getElem?_cons_zero] at hb0
                clear hR5
                cases rr with
                | cons y rr =>
                  have hon : Hid (oneM l = none) := oneM_none HP.out (.inr (.inl ⟨y, rr, rfl⟩))
                  simp only [List.length_cons] at hb0
                  have hpos : (0 : Int) < ((rr.length + 1 : Nat) : Int) := by omega
                  go_wp2_with (first
                    | (refine wpList_put_at rfl 40 (.tmp 2) (.tmp 105) rfl w.heap.size 0 [.int .i64 zeroM.kind, .int .i64 zeroM.frm, .int .i64 zeroM.to, .int .i64 zeroM.ballot, .int .i64 zeroM.slot, .int .i64 zeroM.blob, .int .i64 zeroM.index, .int .i64 zeroM.epoch, .int .i64 zeroM.id, .bool zeroM.ok, .int .i64 zeroM.cmd.id, .int .i64 zeroM.cmd.kind, .string zeroM.cmd.key, .int .i64 zeroM.cmd.blob, .int .i64 zeroM.cmd.other, .int .i64 zeroM.cmd.index, .int .i64 zeroM.cmd.node, .int .i64 zeroM.cmd.size, .int .u32 zeroM.cmd.sum, .int .i64 zeroM.cmd.k, .int .i64 zeroM.cmd.m, .slice none 0 0, .slice none 0 0, .slice none 0 0] rfl rfl 40 _ #[.int .i64 zeroM.kind, .int .i64 zeroM.frm, .int .i64 zeroM.to, .int .i64 zeroM.ballot, .int .i64 zeroM.slot, .int .i64 zeroM.blob, .int .i64 zeroM.index, .int .i64 zeroM.epoch, .int .i64 zeroM.id, .bool zeroM.ok, .int .i64 zeroM.cmd.id, .int .i64 zeroM.cmd.kind, .string zeroM.cmd.key, .int .i64 zeroM.cmd.blob, .int .i64 zeroM.cmd.other, .int .i64 zeroM.cmd.index, .int .i64 zeroM.cmd.node, .int .i64 zeroM.cmd.size, .int .u32 zeroM.cmd.sum, .int .i64 zeroM.cmd.k, .int .i64 zeroM.cmd.m, .slice none 0 0, .slice none 0 0, .slice none 0 0] hr34 (by kernel_rfl) (by show (24 : Nat) ≤ 24; decide) (msg_one zeroM none none none 0 0 0 0 0 0) rfl ?_; intro w40 hgr40 hg40))
                  refine bodyPost_ret (results_row_tmp rfl _ _ w.heap.size 40 #[.int .i64 zeroM.kind, .int .i64 zeroM.frm, .int .i64 zeroM.to, .int .i64 zeroM.ballot, .int .i64 zeroM.slot, .int .i64 zeroM.blob, .int .i64 zeroM.index, .int .i64 zeroM.epoch, .int .i64 zeroM.id, .bool zeroM.ok, .int .i64 zeroM.cmd.id, .int .i64 zeroM.cmd.kind, .string zeroM.cmd.key, .int .i64 zeroM.cmd.blob, .int .i64 zeroM.cmd.other, .int .i64 zeroM.cmd.index, .int .i64 zeroM.cmd.node, .int .i64 zeroM.cmd.size, .int .u32 zeroM.cmd.sum, .int .i64 zeroM.cmd.k, .int .i64 zeroM.cmd.m, .slice none 0 0, .slice none 0 0, .slice none 0 0] (0, 0) _ rfl hg40 Try.underlying40 rfl (by kernel_rfl)) rfl ?_
                  exact ⟨none, 0, none, 0, none, 0, by rw [hon.out]; rfl, HB34.out.trans ⟨hgr40.os, hgr40.tape, hgr40.output, hgr40.size, fun k hk => hgr40.block k (by have := (HB34.out).size; omega) (by intro he; injection he with he; omega)⟩, by rw [hon.out]; exact mgown_zero _ _⟩
                | nil =>
                  simp only [List.length_nil] at hb0
                  go_wp2_with (refine load_atG (by rfl) 40 (.tmp 5) rfl rfl hatM Try.underlying40 rfl (by kernel_rfl) ?_)
                  refine HMM.out.mono ?_
                  rintro e w35 ⟨rfl, hb35⟩
                  have hz35 := hb35.size
                  have hr35 := (hb35.block w.heap.size (by omega)).trans hr34
                  have hatN : At w35 (some ⟨w.heap.size + 1 + 1, 0, none⟩) [.int .i64 h11m.kind, .int .i64 h11m.frm, .int .i64 h11m.to, .int .i64 h11m.ballot, .int .i64 h11m.slot, .int .i64 h11m.blob, .int .i64 h11m.index, .int .i64 h11m.epoch, .int .i64 h11m.id, .bool h11m.ok, .int .i64 h11m.cmd.id, .int .i64 h11m.cmd.kind, .string h11m.cmd.key, .int .i64 h11m.cmd.blob, .int .i64 h11m.cmd.other, .int .i64 h11m.cmd.index, .int .i64 h11m.cmd.node, .int .i64 h11m.cmd.size, .int .u32 h11m.cmd.sum, .int .i64 h11m.cmd.k, .int .i64 h11m.cmd.m, .slice P cn.length e', .slice X V.length ev, .slice A33 bs.length c33] := at_cells ((hb35.block (w.heap.size + 1 + 1) (by omega)).trans HG34.out)
                  have HB35 := Lib.hid (HB34.out.trans (hb35.mono (by omega)))
                  have HMO35 := Lib.hid (HMO.out.map (fun T sz v n xs h => own_below h hb35))
                  clear HMM hatM hb35 HB34 HMO HG34
                  generalize hmay : mayM ⟨h11m, cn, V, bs⟩ = may at *
                  have HMAY := Lib.hid hmay
                  clear hmay
                  cases may with
                  | false =>
                    have hon : Hid (oneM l = none) := oneM_none HP.out (.inr (.inr (by rw [hmk.out]; exact HMAY.out)))
                    go_wp2_with (first
                      | (refine wpList_put_at rfl 40 (.tmp 2) (.tmp 105) rfl w.heap.size 0 [.int .i64 zeroM.kind, .int .i64 zeroM.frm, .int .i64 zeroM.to, .int .i64 zeroM.ballot, .int .i64 zeroM.slot, .int .i64 zeroM.blob, .int .i64 zeroM.index, .int .i64 zeroM.epoch, .int .i64 zeroM.id, .bool zeroM.ok, .int .i64 zeroM.cmd.id, .int .i64 zeroM.cmd.kind, .string zeroM.cmd.key, .int .i64 zeroM.cmd.blob, .int .i64 zeroM.cmd.other, .int .i64 zeroM.cmd.index, .int .i64 zeroM.cmd.node, .int .i64 zeroM.cmd.size, .int .u32 zeroM.cmd.sum, .int .i64 zeroM.cmd.k, .int .i64 zeroM.cmd.m, .slice none 0 0, .slice none 0 0, .slice none 0 0] rfl rfl 40 _ #[.int .i64 zeroM.kind, .int .i64 zeroM.frm, .int .i64 zeroM.to, .int .i64 zeroM.ballot, .int .i64 zeroM.slot, .int .i64 zeroM.blob, .int .i64 zeroM.index, .int .i64 zeroM.epoch, .int .i64 zeroM.id, .bool zeroM.ok, .int .i64 zeroM.cmd.id, .int .i64 zeroM.cmd.kind, .string zeroM.cmd.key, .int .i64 zeroM.cmd.blob, .int .i64 zeroM.cmd.other, .int .i64 zeroM.cmd.index, .int .i64 zeroM.cmd.node, .int .i64 zeroM.cmd.size, .int .u32 zeroM.cmd.sum, .int .i64 zeroM.cmd.k, .int .i64 zeroM.cmd.m, .slice none 0 0, .slice none 0 0, .slice none 0 0] hr35 (by kernel_rfl) (by show (24 : Nat) ≤ 24; decide) (msg_one zeroM none none none 0 0 0 0 0 0) rfl ?_; intro w40 hgr40 hg40))
                    refine bodyPost_ret (results_row_tmp rfl _ _ w.heap.size 40 #[.int .i64 zeroM.kind, .int .i64 zeroM.frm, .int .i64 zeroM.to, .int .i64 zeroM.ballot, .int .i64 zeroM.slot, .int .i64 zeroM.blob, .int .i64 zeroM.index, .int .i64 zeroM.epoch, .int .i64 zeroM.id, .bool zeroM.ok, .int .i64 zeroM.cmd.id, .int .i64 zeroM.cmd.kind, .string zeroM.cmd.key, .int .i64 zeroM.cmd.blob, .int .i64 zeroM.cmd.other, .int .i64 zeroM.cmd.index, .int .i64 zeroM.cmd.node, .int .i64 zeroM.cmd.size, .int .u32 zeroM.cmd.sum, .int .i64 zeroM.cmd.k, .int .i64 zeroM.cmd.m, .slice none 0 0, .slice none 0 0, .slice none 0 0] (0, 0) _ rfl hg40 Try.underlying40 rfl (by kernel_rfl)) rfl ?_
                    exact ⟨none, 0, none, 0, none, 0, by rw [hon.out]; rfl, HB35.out.trans ⟨hgr40.os, hgr40.tape, hgr40.output, hgr40.size, fun k hk => hgr40.block k (by have := (HB35.out).size; omega) (by intro he; injection he with he; omega)⟩, by rw [hon.out]; exact mgown_zero _ _⟩
                  | true =>
                    have hon : Hid (oneM l = some ⟨h11m, cn, V, bs⟩) := by
                      have := oneM_good HP.out (by rw [hmk.out]; exact HMAY.out)
                      rw [hmk.out] at this
                      exact this
                    go_wp2_with (first
                      | (refine wpList_load_at rfl 40 (.tmp 5) rfl rfl hatN Try.underlying40 rfl (by kernel_rfl) ?_)
                      | (refine wpList_put_at rfl 40 (.tmp 2) (.tmp 106) rfl w.heap.size 0 [.int .i64 h11m.kind, .int .i64 h11m.frm, .int .i64 h11m.to, .int .i64 h11m.ballot, .int .i64 h11m.slot, .int .i64 h11m.blob, .int .i64 h11m.index, .int .i64 h11m.epoch, .int .i64 h11m.id, .bool h11m.ok, .int .i64 h11m.cmd.id, .int .i64 h11m.cmd.kind, .string h11m.cmd.key, .int .i64 h11m.cmd.blob, .int .i64 h11m.cmd.other, .int .i64 h11m.cmd.index, .int .i64 h11m.cmd.node, .int .i64 h11m.cmd.size, .int .u32 h11m.cmd.sum, .int .i64 h11m.cmd.k, .int .i64 h11m.cmd.m, .slice P cn.length e', .slice X V.length ev, .slice A33 bs.length c33] rfl rfl 40 _ #[.int .i64 h11m.kind, .int .i64 h11m.frm, .int .i64 h11m.to, .int .i64 h11m.ballot, .int .i64 h11m.slot, .int .i64 h11m.blob, .int .i64 h11m.index, .int .i64 h11m.epoch, .int .i64 h11m.id, .bool h11m.ok, .int .i64 h11m.cmd.id, .int .i64 h11m.cmd.kind, .string h11m.cmd.key, .int .i64 h11m.cmd.blob, .int .i64 h11m.cmd.other, .int .i64 h11m.cmd.index, .int .i64 h11m.cmd.node, .int .i64 h11m.cmd.size, .int .u32 h11m.cmd.sum, .int .i64 h11m.cmd.k, .int .i64 h11m.cmd.m, .slice P cn.length e', .slice X V.length ev, .slice A33 bs.length c33] hr35 (by kernel_rfl) (by show (24 : Nat) ≤ 24; decide) (msg_one h11m P X A33 cn.length e' V.length ev bs.length c33) rfl ?_; intro w40 hgr40 hg40))
                    refine bodyPost_ret (results_row_tmp rfl _ _ w.heap.size 40 #[.int .i64 h11m.kind, .int .i64 h11m.frm, .int .i64 h11m.to, .int .i64 h11m.ballot, .int .i64 h11m.slot, .int .i64 h11m.blob, .int .i64 h11m.index, .int .i64 h11m.epoch, .int .i64 h11m.id, .bool h11m.ok, .int .i64 h11m.cmd.id, .int .i64 h11m.cmd.kind, .string h11m.cmd.key, .int .i64 h11m.cmd.blob, .int .i64 h11m.cmd.other, .int .i64 h11m.cmd.index, .int .i64 h11m.cmd.node, .int .i64 h11m.cmd.size, .int .u32 h11m.cmd.sum, .int .i64 h11m.cmd.k, .int .i64 h11m.cmd.m, .slice P cn.length e', .slice X V.length ev, .slice A33 bs.length c33] (0, 0) _ rfl hg40 Try.underlying40 rfl (by kernel_rfl)) rfl ?_
                    exact ⟨P, e', X, ev, A33, c33, by rw [hon.out]; rfl, HB35.out.trans ⟨hgr40.os, hgr40.tape, hgr40.output, hgr40.size, fun k hk => hgr40.block k (by have := HB35.out.size; omega) (by intro he; injection he with he; omega)⟩, by rw [hon.out]; exact (HMO35.out.map (fun T sz v n xs h => own_keep h hgr40 (by omega))).lower (by omega)⟩
            · go_simp
              refine HN31.out.mono ?_
              rintro e w32 ⟨A32, c32, bs, s31, rfl, hA32, hfar32, hnil32, hS32, hgr32, hstep, hlt32, hcap32⟩
              have H31 := Lib.hid (show StepG (takeR kk) s30 bs s31 from hstep)
              have hz32 := hgr32.size
              have hg32 := (hgr32.block (w.heap.size + 1 + 1) (by omega) (by intro he; injection he with he; omega)).trans HG31.out
              have c23b := cell_of_row _ _ 23 _ _ (0, 0) hg32
              simp only [List.getElem?_toArray, List.getElem?_cons_succ, List.getElem?_cons_zero] at c23b
              have HG32 := Lib.hid hg32
              have HGR32 := Lib.hid hgr32
              have HS32 := Lib.hid hS32
              clear hstep hgr32 hg32 HN31 hS32 HG31
              go_wp2_with fail
              refine hKK.out _ _ trivial (fun _ => ?_)
              clear hKK KK
              (try simp only [List.getElem_toArray, List.getElem_cons_succ, List.getElem_cons_zero, Act.put, List.setIfInBounds_toArray, List.set_cons_zero, List.set_cons_succ])
              refine wpAnyH_ready (rs := [1]) (by kernel_rfl) (by simp) ?_; refine AllReadyH.cons rfl (fun KK hKK => ?_) AllReadyH.nil
              go_simp
              go_wp2_with fail
              refine hKK.out _ _ trivial (fun _ => ?_)
              clear hKK KK
              (try simp only [List.getElem_toArray, List.getElem_cons_succ, List.getElem_cons_zero, Act.put, List.setIfInBounds_toArray, List.set_cons_zero, List.set_cons_succ])
              refine wpAnyH_ready (rs := [6]) (by kernel_rfl) (by simp) ?_; refine AllReadyH.cons rfl (fun KK hKK => ?_) AllReadyH.nil
              have hsz32 : w3.heap.size ≤ w32.heap.size := by omega
              refine step_app_bytes rfl (.tmp 81) (.tmp 85) rfl w3.heap.size (v := .slice none 0 0) (n := 0) (xs := []) rfl (World.ownsRow_nil _ _ _ _ : w32.ownsRow w3.heap.size 5 1 (.slice none 0 0) 0 (bys [])) rfl (news := bs) rfl hA32 hnil32 (by omega) hsz32 ?_
              intro A33 c33 w33 ho33 hb33 hg33 hcap33
              have hgq33 := hg33.1
              clear hg33
              rw [List.nil_append, Nat.zero_add] at ho33
              rw [Nat.zero_add]
              have hg33G := (hb33.block (w.heap.size + 1 + 1) (by omega)).trans HG32.out
              have c23 := cell_of_row _ _ 23 _ _ (0, 0) hg33G
              have f23 := frozen_of_row _ _ 23 _ _ hg33G
              simp only [List.getElem?_toArray, List.getElem?_cons_succ, List.getElem?_cons_zero] at c23
              clear hA32 hfar32 hnil32 c23a c23b c23D hcap33 hcap32
              refine hKK.out _ _ trivial (fun _ => ?_)
              clear hKK KK
              (try simp only [List.getElem_toArray, List.getElem_cons_succ, List.getElem_cons_zero, Act.put, List.setIfInBounds_toArray, List.set_cons_zero, List.set_cons_succ])
              refine wpAnyH_take (i := 7) (v := ?_) rfl (by kernel_rfl) (by kernel_rfl) (by kernel_rfl) (fun _ _ _ h => h) (Or.inl ⟨by rfl, ?_⟩) (by assumption) ?_; rotate_left; (intro w hSw; (try dsimp only at hSw); go_simp; (first | done | (with_reducible rfl))); (try simp only [List.getElem_toArray, List.getElem_cons_succ, List.getElem_cons_zero, Act.put, List.setIfInBounds_toArray, List.set_cons_zero, List.set_cons_succ])
              refine wpAnyH_ready (rs := [8]) (by kernel_rfl) (by simp) ?_; refine AllReadyH.cons rfl (fun KK hKK => ?_) AllReadyH.nil
              go_simp
              go_wp2_with fail
              refine hKK.out _ _ trivial (fun _ => ?_)
              clear hKK KK
              (try simp only [List.getElem_toArray, List.getElem_cons_succ, List.getElem_cons_zero, Act.put, List.setIfInBounds_toArray, List.set_cons_zero, List.set_cons_succ])
              refine wpAnyH_done (by kernel_rfl) ?_ _
              have hset34 := heap_setCell_same w33 (w.heap.size + 1 + 1) 23 _ _ (.slice A33 bs.length c33) hg33G
              have hg34 : (w33.setCell ⟨w.heap.size + 1 + 1, 23, none⟩ (.slice A33 bs.length c33)).heap[w.heap.size + 1 + 1]? = some (.cells #[.int .i64 h11m.kind, .int .i64 h11m.frm, .int .i64 h11m.to, .int .i64 h11m.ballot, .int .i64 h11m.slot, .int .i64 h11m.blob, .int .i64 h11m.index, .int .i64 h11m.epoch, .int .i64 h11m.id, .bool h11m.ok, .int .i64 h11m.cmd.id, .int .i64 h11m.cmd.kind, .string h11m.cmd.key, .int .i64 h11m.cmd.blob, .int .i64 h11m.cmd.other, .int .i64 h11m.cmd.index, .int .i64 h11m.cmd.node, .int .i64 h11m.cmd.size, .int .u32 h11m.cmd.sum, .int .i64 h11m.cmd.k, .int .i64 h11m.cmd.m, .slice P cn.length e', .slice X V.length ev, .slice A33 bs.length c33] 40 (0, 0)) := hset34
              have hr33 := (hb33.block w.heap.size (by omega)).trans ((HGR32.out.block w.heap.size (by omega) (by intro he; injection he with he; omega)).trans ((HGR31.out.block w.heap.size (by omega) (by intro he; injection he with he; omega)).trans HRD.out))
              have hr34 := (heap_setCell_other w33 ⟨w.heap.size + 1 + 1, 23, none⟩ w.heap.size (.slice A33 bs.length c33) (by simp; omega)).trans hr33
              have hS34 := (HS32.out.belowB hb33 (by omega)).other (o := 23) (v := .slice A33 bs.length c33) (by omega : (w.heap.size + 1) < (w.heap.size + 1 + 1))
              have hT34 := (((HTD.out.trans (Two.of1 HGR31.out)).trans (Two.of1 HGR32.out)).below hb33).trans (Two.of2 (p := (w.heap.size + 1)) (grown_set w33 (w.heap.size + 1 + 1) 23 (.slice A33 bs.length c33)))
              have fk : ∀ T sz v n xs, WD.ownsRow w3.heap.size T sz v n xs → T ≠ 5 → (w33.setCell ⟨w.heap.size + 1 + 1, 23, none⟩ (.slice A33 bs.length c33)).ownsRow w3.heap.size T sz v n xs := fun T sz v n xs h hT =>
                ownsRow_setCell_below (own_app (own_keep (own_keep h HGR31.out (by omega)) HGR32.out (by omega)) hgq33) (show w.heap.size + 1 + 1 < w3.heap.size by omega) _
              have ho34 := ownsRow_setCell_below ho33 (show w.heap.size + 1 + 1 < w3.heap.size by omega) (.slice A33 bs.length c33) (a := ⟨w.heap.size + 1 + 1, 23, none⟩)
              have hMO : MgOwn (w33.setCell ⟨w.heap.size + 1 + 1, 23, none⟩ (.slice A33 bs.length c33)) w3.heap.size P e' X ev A33 c33 ⟨h11m, cn, V, bs⟩ :=
                ⟨fk _ _ _ _ _ HCD.out (by decide), hcl, ⟨us, fk _ _ _ _ _ HVD.out (by decide), VtsO.map (fun v n xs h => fk _ _ v n xs h (by decide)) _ _ HVOD.out⟩, hnn, ho34, by simp only; omega, by rw [show (⟨h11m, cn, V, bs⟩ : Mg).h.cmd = cc by show h11m.cmd = cc; rw [HH11.out]; rfl]; exact HSM.out⟩
              have HP : Hid (StepG partsM (some l) ([m1, m2, m3, m4, m5, m6, m7, m8, m9], okv, (cc, cn), V.length, V, kk, bs) s31) := by
                show StepG partsM _ _ _
                unfold partsM
                exact HNUM.out.then' (H11.out.then' (H12.out.then' (H13.out.then' (HV.out.then' (H30.out.then' H31.out)))))
              have hmk : Hid (mkM [m1, m2, m3, m4, m5, m6, m7, m8, m9] okv cc cn V bs = ⟨h11m, cn, V, bs⟩) := by show _ = _; rw [HH11.out, HH10.out]; rfl
              have hz34 : w3.heap.size ≤ (w33.setCell ⟨w.heap.size + 1 + 1, 23, none⟩ (.slice A33 bs.length c33)).heap.size := by simp; have := hb33.size; omega
              clear hset34 hr33 hg33G c23 f23 ho33 ho34 hb33 fk HGR31 HGR32 HVD HVOD HCD HGD HRD HTD HNUM H11 H12 H13 HV H30 H31 HH11 HH10 HG32 HS32
              generalize w33.setCell ⟨w.heap.size + 1 + 1, 23, none⟩ (.slice A33 bs.length c33) = w34 at *
              have hatM : At w34 (some ⟨w.heap.size + 1 + 1, 0, none⟩) [.int .i64 h11m.kind, .int .i64 h11m.frm, .int .i64 h11m.to, .int .i64 h11m.ballot, .int .i64 h11m.slot, .int .i64 h11m.blob, .int .i64 h11m.index, .int .i64 h11m.epoch, .int .i64 h11m.id, .bool h11m.ok, .int .i64 h11m.cmd.id, .int .i64 h11m.cmd.kind, .string h11m.cmd.key, .int .i64 h11m.cmd.blob, .int .i64 h11m.cmd.other, .int .i64 h11m.cmd.index, .int .i64 h11m.cmd.node, .int .i64 h11m.cmd.size, .int .u32 h11m.cmd.sum, .int .i64 h11m.cmd.k, .int .i64 h11m.cmd.m, .slice P cn.length e', .slice X V.length ev, .slice A33 bs.length c33] := at_cells hg34
              have HMM := Lib.hid (rmayMsg_calls (e := ev) hMO.at)
              simp only at HMM
              have HMO := Lib.hid hMO
              have HG34 := Lib.hid hg34
              have HB34 := Lib.hid (below_two HB3.out hT34 (by omega))
              clear hMO hg34 hT34
              obtain ⟨hfc, hff⟩ := hS34.flag
              cases s31 with
              | none =>
                have hon : Hid (oneM l = none) := oneM_none HP.out (.inl rfl)
                simp only [Option.isNone_none] at hfc
                clear hS34
                go_wp2_with (first
                  | (refine wpList_put_at rfl 40 (.tmp 2) (.tmp 105) rfl w.heap.size 0 [.int .i64 zeroM.kind, .int .i64 zeroM.frm, .int .i64 zeroM.to, .int .i64 zeroM.ballot, .int .i64 zeroM.slot, .int .i64 zeroM.blob, .int .i64 zeroM.index, .int .i64 zeroM.epoch, .int .i64 zeroM.id, .bool zeroM.ok, .int .i64 zeroM.cmd.id, .int .i64 zeroM.cmd.kind, .string zeroM.cmd.key, .int .i64 zeroM.cmd.blob, .int .i64 zeroM.cmd.other, .int .i64 zeroM.cmd.index, .int .i64 zeroM.cmd.node, .int .i64 zeroM.cmd.size, .int .u32 zeroM.cmd.sum, .int .i64 zeroM.cmd.k, .int .i64 zeroM.cmd.m, .slice none 0 0, .slice none 0 0, .slice none 0 0] rfl rfl 40 _ #[.int .i64 zeroM.kind, .int .i64 zeroM.frm, .int .i64 zeroM.to, .int .i64 zeroM.ballot, .int .i64 zeroM.slot, .int .i64 zeroM.blob, .int .i64 zeroM.index, .int .i64 zeroM.epoch, .int .i64 zeroM.id, .bool zeroM.ok, .int .i64 zeroM.cmd.id, .int .i64 zeroM.cmd.kind, .string zeroM.cmd.key, .int .i64 zeroM.cmd.blob, .int .i64 zeroM.cmd.other, .int .i64 zeroM.cmd.index, .int .i64 zeroM.cmd.node, .int .i64 zeroM.cmd.size, .int .u32 zeroM.cmd.sum, .int .i64 zeroM.cmd.k, .int .i64 zeroM.cmd.m, .slice none 0 0, .slice none 0 0, .slice none 0 0] hr34 (by kernel_rfl) (by show (24 : Nat) ≤ 24; decide) (msg_one zeroM none none none 0 0 0 0 0 0) rfl ?_; intro w40 hgr40 hg40))
                refine bodyPost_ret (results_row_tmp rfl _ _ w.heap.size 40 #[.int .i64 zeroM.kind, .int .i64 zeroM.frm, .int .i64 zeroM.to, .int .i64 zeroM.ballot, .int .i64 zeroM.slot, .int .i64 zeroM.blob, .int .i64 zeroM.index, .int .i64 zeroM.epoch, .int .i64 zeroM.id, .bool zeroM.ok, .int .i64 zeroM.cmd.id, .int .i64 zeroM.cmd.kind, .string zeroM.cmd.key, .int .i64 zeroM.cmd.blob, .int .i64 zeroM.cmd.other, .int .i64 zeroM.cmd.index, .int .i64 zeroM.cmd.node, .int .i64 zeroM.cmd.size, .int .u32 zeroM.cmd.sum, .int .i64 zeroM.cmd.k, .int .i64 zeroM.cmd.m, .slice none 0 0, .slice none 0 0, .slice none 0 0] (0, 0) _ rfl hg40 Try.underlying40 rfl (by kernel_rfl)) rfl ?_
                exact ⟨none, 0, none, 0, none, 0, by rw [hon.out]; rfl, HB34.out.trans ⟨hgr40.os, hgr40.tape, hgr40.output, hgr40.size, fun k hk => hgr40.block k (by have := (HB34.out).size; omega) (by intro he; injection he with he; omega)⟩, by rw [hon.out]; exact mgown_zero _ _⟩
              | some rr =>
                simp only [Option.isNone_some] at hfc
                obtain ⟨A5, c5, hR5⟩ := hS34
                have hb0 := cell_of_row _ _ 0 _ _ (0, 0) hR5.hd
                simp only [List.getElem?_toArray, List.getElem?_cons_succ, List.getElem?_cons_zero] at hb0
                clear hR5
                cases rr with
                | cons y rr =>
                  have hon : Hid (oneM l = none) := oneM_none HP.out (.inr (.inl ⟨y, rr, rfl⟩))
                  simp only [List.length_cons] at hb0
                  have hpos : (0 : Int) < ((rr.length + 1 : Nat) : Int) := by omega
                  go_wp2_with (first
                    | (refine wpList_put_at rfl 40 (.tmp 2) (.tmp 105) rfl w.heap.size 0 [.int .i64 zeroM.kind, .int .i64 zeroM.frm, .int .i64 zeroM.to, .int .i64 zeroM.ballot, .int .i64 zeroM.slot, .int .i64 zeroM.blob, .int .i64 zeroM.index, .int .i64 zeroM.epoch, .int .i64 zeroM.id, .bool zeroM.ok, .int .i64 zeroM.cmd.id, .int .i64 zeroM.cmd.kind, .string zeroM.cmd.key, .int .i64 zeroM.cmd.blob, .int .i64 zeroM.cmd.other, .int .i64 zeroM.cmd.index, .int .i64 zeroM.cmd.node, .int .i64 zeroM.cmd.size, .int .u32 zeroM.cmd.sum, .int .i64 zeroM.cmd.k, .int .i64 zeroM.cmd.m, .slice none 0 0, .slice none 0 0, .slice none 0 0] rfl rfl 40 _ #[.int .i64 zeroM.kind, .int .i64 zeroM.frm, .int .i64 zeroM.to, .int .i64 zeroM.ballot, .int .i64 zeroM.slot, .int .i64 zeroM.blob, .int .i64 zeroM.index, .int .i64 zeroM.epoch, .int .i64 zeroM.id, .bool zeroM.ok, .int .i64 zeroM.cmd.id, .int .i64 zeroM.cmd.kind, .string zeroM.cmd.key, .int .i64 zeroM.cmd.blob, .int .i64 zeroM.cmd.other, .int .i64 zeroM.cmd.index, .int .i64 zeroM.cmd.node, .int .i64 zeroM.cmd.size, .int .u32 zeroM.cmd.sum, .int .i64 zeroM.cmd.k, .int .i64 zeroM.cmd.m, .slice none 0 0, .slice none 0 0, .slice none 0 0] hr34 (by kernel_rfl) (by show (24 : Nat) ≤ 24; decide) (msg_one zeroM none none none 0 0 0 0 0 0) rfl ?_; intro w40 hgr40 hg40))
                  refine bodyPost_ret (results_row_tmp rfl _ _ w.heap.size 40 #[.int .i64 zeroM.kind, .int .i64 zeroM.frm, .int .i64 zeroM.to, .int .i64 zeroM.ballot, .int .i64 zeroM.slot, .int .i64 zeroM.blob, .int .i64 zeroM.index, .int .i64 zeroM.epoch, .int .i64 zeroM.id, .bool zeroM.ok, .int .i64 zeroM.cmd.id, .int .i64 zeroM.cmd.kind, .string zeroM.cmd.key, .int .i64 zeroM.cmd.blob, .int .i64 zeroM.cmd.other, .int .i64 zeroM.cmd.index, .int .i64 zeroM.cmd.node, .int .i64 zeroM.cmd.size, .int .u32 zeroM.cmd.sum, .int .i64 zeroM.cmd.k, .int .i64 zeroM.cmd.m, .slice none 0 0, .slice none 0 0, .slice none 0 0] (0, 0) _ rfl hg40 Try.underlying40 rfl (by kernel_rfl)) rfl ?_
                  exact ⟨none, 0, none, 0, none, 0, by rw [hon.out]; rfl, HB34.out.trans ⟨hgr40.os, hgr40.tape, hgr40.output, hgr40.size, fun k hk => hgr40.block k (by have := (HB34.out).size; omega) (by intro he; injection he with he; omega)⟩, by rw [hon.out]; exact mgown_zero _ _⟩
                | nil =>
                  simp only [List.length_nil] at hb0
                  go_wp2_with (refine load_atG (by rfl) 40 (.tmp 5) rfl rfl hatM Try.underlying40 rfl (by kernel_rfl) ?_)
                  refine HMM.out.mono ?_
                  rintro e w35 ⟨rfl, hb35⟩
                  have hz35 := hb35.size
                  have hr35 := (hb35.block w.heap.size (by omega)).trans hr34
                  have hatN : At w35 (some ⟨w.heap.size + 1 + 1, 0, none⟩) [.int .i64 h11m.kind, .int .i64 h11m.frm, .int .i64 h11m.to, .int .i64 h11m.ballot, .int .i64 h11m.slot, .int .i64 h11m.blob, .int .i64 h11m.index, .int .i64 h11m.epoch, .int .i64 h11m.id, .bool h11m.ok, .int .i64 h11m.cmd.id, .int .i64 h11m.cmd.kind, .string h11m.cmd.key, .int .i64 h11m.cmd.blob, .int .i64 h11m.cmd.other, .int .i64 h11m.cmd.index, .int .i64 h11m.cmd.node, .int .i64 h11m.cmd.size, .int .u32 h11m.cmd.sum, .int .i64 h11m.cmd.k, .int .i64 h11m.cmd.m, .slice P cn.length e', .slice X V.length ev, .slice A33 bs.length c33] := at_cells ((hb35.block (w.heap.size + 1 + 1) (by omega)).trans HG34.out)
                  have HB35 := Lib.hid (HB34.out.trans (hb35.mono (by omega)))
                  have HMO35 := Lib.hid (HMO.out.map (fun T sz v n xs h => own_below h hb35))
                  clear HMM hatM hb35 HB34 HMO HG34
                  generalize hmay : mayM ⟨h11m, cn, V, bs⟩ = may at *
                  have HMAY := Lib.hid hmay
                  clear hmay
                  cases may with
                  | false =>
                    have hon : Hid (oneM l = none) := oneM_none HP.out (.inr (.inr (by rw [hmk.out]; exact HMAY.out)))
                    go_wp2_with (first
                      | (refine wpList_put_at rfl 40 (.tmp 2) (.tmp 105) rfl w.heap.size 0 [.int .i64 zeroM.kind, .int .i64 zeroM.frm, .int .i64 zeroM.to, .int .i64 zeroM.ballot, .int .i64 zeroM.slot, .int .i64 zeroM.blob, .int .i64 zeroM.index, .int .i64 zeroM.epoch, .int .i64 zeroM.id, .bool zeroM.ok, .int .i64 zeroM.cmd.id, .int .i64 zeroM.cmd.kind, .string zeroM.cmd.key, .int .i64 zeroM.cmd.blob, .int .i64 zeroM.cmd.other, .int .i64 zeroM.cmd.index, .int .i64 zeroM.cmd.node, .int .i64 zeroM.cmd.size, .int .u32 zeroM.cmd.sum, .int .i64 zeroM.cmd.k, .int .i64 zeroM.cmd.m, .slice none 0 0, .slice none 0 0, .slice none 0 0] rfl rfl 40 _ #[.int .i64 zeroM.kind, .int .i64 zeroM.frm, .int .i64 zeroM.to, .int .i64 zeroM.ballot, .int .i64 zeroM.slot, .int .i64 zeroM.blob, .int .i64 zeroM.index, .int .i64 zeroM.epoch, .int .i64 zeroM.id, .bool zeroM.ok, .int .i64 zeroM.cmd.id, .int .i64 zeroM.cmd.kind, .string zeroM.cmd.key, .int .i64 zeroM.cmd.blob, .int .i64 zeroM.cmd.other, .int .i64 zeroM.cmd.index, .int .i64 zeroM.cmd.node, .int .i64 zeroM.cmd.size, .int .u32 zeroM.cmd.sum, .int .i64 zeroM.cmd.k, .int .i64 zeroM.cmd.m, .slice none 0 0, .slice none 0 0, .slice none 0 0] hr35 (by kernel_rfl) (by show (24 : Nat) ≤ 24; decide) (msg_one zeroM none none none 0 0 0 0 0 0) rfl ?_; intro w40 hgr40 hg40))
                    refine bodyPost_ret (results_row_tmp rfl _ _ w.heap.size 40 #[.int .i64 zeroM.kind, .int .i64 zeroM.frm, .int .i64 zeroM.to, .int .i64 zeroM.ballot, .int .i64 zeroM.slot, .int .i64 zeroM.blob, .int .i64 zeroM.index, .int .i64 zeroM.epoch, .int .i64 zeroM.id, .bool zeroM.ok, .int .i64 zeroM.cmd.id, .int .i64 zeroM.cmd.kind, .string zeroM.cmd.key, .int .i64 zeroM.cmd.blob, .int .i64 zeroM.cmd.other, .int .i64 zeroM.cmd.index, .int .i64 zeroM.cmd.node, .int .i64 zeroM.cmd.size, .int .u32 zeroM.cmd.sum, .int .i64 zeroM.cmd.k, .int .i64 zeroM.cmd.m, .slice none 0 0, .slice none 0 0, .slice none 0 0] (0, 0) _ rfl hg40 Try.underlying40 rfl (by kernel_rfl)) rfl ?_
                    exact ⟨none, 0, none, 0, none, 0, by rw [hon.out]; rfl, HB35.out.trans ⟨hgr40.os, hgr40.tape, hgr40.output, hgr40.size, fun k hk => hgr40.block k (by have := (HB35.out).size; omega) (by intro he; injection he with he; omega)⟩, by rw [hon.out]; exact mgown_zero _ _⟩
                  | true =>
                    have hon : Hid (oneM l = some ⟨h11m, cn, V, bs⟩) := by
                      have := oneM_good HP.out (by rw [hmk.out]; exact HMAY.out)
                      rw [hmk.out] at this
                      exact this
                    go_wp2_with (first
                      | (refine wpList_load_at rfl 40 (.tmp 5) rfl rfl hatN Try.underlying40 rfl (by kernel_rfl) ?_)
                      | (refine wpList_put_at rfl 40 (.tmp 2) (.tmp 106) rfl w.heap.size 0 [.int .i64 h11m.kind, .int .i64 h11m.frm, .int .i64 h11m.to, .int .i64 h11m.ballot, .int .i64 h11m.slot, .int .i64 h11m.blob, .int .i64 h11m.index, .int .i64 h11m.epoch, .int .i64 h11m.id, .bool h11m.ok, .int .i64 h11m.cmd.id, .int .i64 h11m.cmd.kind, .string h11m.cmd.key, .int .i64 h11m.cmd.blob, .int .i64 h11m.cmd.other, .int .i64 h11m.cmd.index, .int .i64 h11m.cmd.node, .int .i64 h11m.cmd.size, .int .u32 h11m.cmd.sum, .int .i64 h11m.cmd.k, .int .i64 h11m.cmd.m, .slice P cn.length e', .slice X V.length ev, .slice A33 bs.length c33] rfl rfl 40 _ #[.int .i64 h11m.kind, .int .i64 h11m.frm, .int .i64 h11m.to, .int .i64 h11m.ballot, .int .i64 h11m.slot, .int .i64 h11m.blob, .int .i64 h11m.index, .int .i64 h11m.epoch, .int .i64 h11m.id, .bool h11m.ok, .int .i64 h11m.cmd.id, .int .i64 h11m.cmd.kind, .string h11m.cmd.key, .int .i64 h11m.cmd.blob, .int .i64 h11m.cmd.other, .int .i64 h11m.cmd.index, .int .i64 h11m.cmd.node, .int .i64 h11m.cmd.size, .int .u32 h11m.cmd.sum, .int .i64 h11m.cmd.k, .int .i64 h11m.cmd.m, .slice P cn.length e', .slice X V.length ev, .slice A33 bs.length c33] hr35 (by kernel_rfl) (by show (24 : Nat) ≤ 24; decide) (msg_one h11m P X A33 cn.length e' V.length ev bs.length c33) rfl ?_; intro w40 hgr40 hg40))
                    refine bodyPost_ret (results_row_tmp rfl _ _ w.heap.size 40 #[.int .i64 h11m.kind, .int .i64 h11m.frm, .int .i64 h11m.to, .int .i64 h11m.ballot, .int .i64 h11m.slot, .int .i64 h11m.blob, .int .i64 h11m.index, .int .i64 h11m.epoch, .int .i64 h11m.id, .bool h11m.ok, .int .i64 h11m.cmd.id, .int .i64 h11m.cmd.kind, .string h11m.cmd.key, .int .i64 h11m.cmd.blob, .int .i64 h11m.cmd.other, .int .i64 h11m.cmd.index, .int .i64 h11m.cmd.node, .int .i64 h11m.cmd.size, .int .u32 h11m.cmd.sum, .int .i64 h11m.cmd.k, .int .i64 h11m.cmd.m, .slice P cn.length e', .slice X V.length ev, .slice A33 bs.length c33] (0, 0) _ rfl hg40 Try.underlying40 rfl (by kernel_rfl)) rfl ?_
                    exact ⟨P, e', X, ev, A33, c33, by rw [hon.out]; rfl, HB35.out.trans ⟨hgr40.os, hgr40.tape, hgr40.output, hgr40.size, fun k hk => hgr40.block k (by have := HB35.out.size; omega) (by intro he; injection he with he; omega)⟩, by rw [hon.out]; exact (HMO35.out.map (fun T sz v n xs h => own_keep h hgr40 (by omega))).lower (by omega)⟩
end Go.Proofs.Ytfcacplecapgfaa