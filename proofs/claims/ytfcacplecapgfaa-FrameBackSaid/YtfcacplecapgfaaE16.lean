/- Contract: amphoraref05.Reader: cmd, by states. -/
import Derived.Test.YtfcacplecapgfaaE15
namespace Go.Proofs.Ytfcacplecapgfaa
open Go.RowKit
set_option linter.unusedVariables false
set_option linter.unusedSimpArgs false

theorem two_boxes (w : World) : ∃ w3, w3 = (w.alloc (.cells #[.int .i64 0, .int .i64 0, .string ⟨#[]⟩, .int .i64 0, .int .i64 0, .int .i64 0, .int .i64 0, .int .i64 0, .int .u32 0, .int .i64 0, .int .i64 0, .slice none 0 0] 27)).alloc (.cells #[.int .i64 0, .int .i64 0, .string ⟨#[]⟩, .int .i64 0, .int .i64 0, .int .i64 0, .int .i64 0, .int .i64 0, .int .u32 0, .int .i64 0, .int .i64 0, .slice none 0 0] 27) ∧ Below w.heap.size w w3 ∧ w3.heap[w.heap.size]? = some (.cells #[.int .i64 0, .int .i64 0, .string ⟨#[]⟩, .int .i64 0, .int .i64 0, .int .i64 0, .int .i64 0, .int .i64 0, .int .u32 0, .int .i64 0, .int .i64 0, .slice none 0 0] 27 (0, 0)) ∧
    w3.heap[w.heap.size + 1]? = some (.cells #[.int .i64 0, .int .i64 0, .string ⟨#[]⟩, .int .i64 0, .int .i64 0, .int .i64 0, .int .i64 0, .int .i64 0, .int .u32 0, .int .i64 0, .int .i64 0, .slice none 0 0] 27 (0, 0)) ∧ w3.heap.size = w.heap.size + 2 := by
  refine ⟨_, rfl, ?_⟩
  have hb1 := below1' w (.cells #[.int .i64 0, .int .i64 0, .string ⟨#[]⟩, .int .i64 0, .int .i64 0, .int .i64 0, .int .i64 0, .int .i64 0, .int .u32 0, .int .i64 0, .int .i64 0, .slice none 0 0] 27)
  have h1 : (w.alloc (.cells #[.int .i64 0, .int .i64 0, .string ⟨#[]⟩, .int .i64 0, .int .i64 0, .int .i64 0, .int .i64 0, .int .i64 0, .int .u32 0, .int .i64 0, .int .i64 0, .slice none 0 0] 27)).heap[w.heap.size]? = some (.cells #[.int .i64 0, .int .i64 0, .string ⟨#[]⟩, .int .i64 0, .int .i64 0, .int .i64 0, .int .i64 0, .int .i64 0, .int .u32 0, .int .i64 0, .int .i64 0, .slice none 0 0] 27 (0, 0)) := heap_alloc_new w _
  have hs1 : (w.alloc (.cells #[.int .i64 0, .int .i64 0, .string ⟨#[]⟩, .int .i64 0, .int .i64 0, .int .i64 0, .int .i64 0, .int .i64 0, .int .u32 0, .int .i64 0, .int .i64 0, .slice none 0 0] 27)).heap.size = w.heap.size + 1 := by simp
  generalize w.alloc (.cells #[.int .i64 0, .int .i64 0, .string ⟨#[]⟩, .int .i64 0, .int .i64 0, .int .i64 0, .int .i64 0, .int .i64 0, .int .u32 0, .int .i64 0, .int .i64 0, .slice none 0 0] 27) = wa at *
  have hb2 := below1' wa (.cells #[.int .i64 0, .int .i64 0, .string ⟨#[]⟩, .int .i64 0, .int .i64 0, .int .i64 0, .int .i64 0, .int .i64 0, .int .u32 0, .int .i64 0, .int .i64 0, .slice none 0 0] 27)
  have h2 : (wa.alloc (.cells #[.int .i64 0, .int .i64 0, .string ⟨#[]⟩, .int .i64 0, .int .i64 0, .int .i64 0, .int .i64 0, .int .i64 0, .int .u32 0, .int .i64 0, .int .i64 0, .slice none 0 0] 27)).heap[wa.heap.size]? = some (.cells #[.int .i64 0, .int .i64 0, .string ⟨#[]⟩, .int .i64 0, .int .i64 0, .int .i64 0, .int .i64 0, .int .i64 0, .int .u32 0, .int .i64 0, .int .i64 0, .slice none 0 0] 27 (0, 0)) := heap_alloc_new wa _
  have hs2 : (wa.alloc (.cells #[.int .i64 0, .int .i64 0, .string ⟨#[]⟩, .int .i64 0, .int .i64 0, .int .i64 0, .int .i64 0, .int .i64 0, .int .u32 0, .int .i64 0, .int .i64 0, .slice none 0 0] 27)).heap.size = w.heap.size + 1 + 1 := by simp; omega
  rw [hs1] at h2
  have h12 := (hb2.block w.heap.size (by omega)).trans h1
  exact ⟨hb1.trans (hb2.mono (by omega)), h12, h2, hs2⟩

theorem put_step {w3 w : World} {pr g : Nat} {st : Option (List B8)} {cs : Array Value} {T : TypeId} (o : Nat) (v : Value) (hg : w.heap[g]? = some (.cells cs T (0, 0))) (hS : RdS w pr st) (hT : Two w3 w pr g) (hp : pr < g) :
    (w.setCell ⟨g, o, none⟩ v).heap[g]? = some (.cells (cs.setIfInBounds o v) T (0, 0)) ∧ RdS (w.setCell ⟨g, o, none⟩ v) pr st ∧ Two w3 (w.setCell ⟨g, o, none⟩ v) pr g ∧ (∀ k, k ≠ g → (w.setCell ⟨g, o, none⟩ v).heap[k]? = w.heap[k]?) :=
  ⟨heap_setCell_same w g o _ _ v hg, hS.other hp, hT.trans (Two.of2 (grown_set w g o v)), fun k hk => heap_setCell_other w ⟨g, o, none⟩ k v (by simp; omega)⟩

theorem rem32 {sm m : Nat} (h : sm = m % 4294967296) : (m : Int).tmod 4294967296 = (sm : Int) := by
  rw [Int.tmod_eq_emod_of_nonneg (by omega)]; omega
theorem wrap32n {sm : Nat} (h : sm < 4294967296) : IntKind.u32.wrap (sm : Int) = (sm : Int) := by
  have h1 : IntKind.u32.signed = false := rfl
  have h2 : IntKind.u32.bits = 32 := rfl
  unfold IntKind.wrap
  rw [h1, h2]
  simp only [Bool.false_and, Bool.false_eq_true, if_false]
  have h3 : ((2 : Int) ^ 32) = 4294967296 := by decide
  rw [h3]
  omega

/-- What a reader's cmd leaves. -/
def RCmdS (w : World) (pr : Nat) (st : Option (List B8)) (e : Ending) (w' : World) : Prop :=
  ∃ (c : Cm) (ns : List Int) (P : Option Addr) (e' : Nat) (st' : Option (List B8)), e = .returned (cmv c (.slice P ns.length e')) ∧ RdS w' pr st' ∧ w.grownBy w' (some pr) ∧
    w'.ownsRow w.heap.size 3 1 (.slice P ns.length e') ns.length (ints ns) ∧ StepG readC st (c, ns) st' ∧ ns.length ≤ 255 ∧ 0 ≤ c.sum ∧ c.sum < 4294967296

set_option maxHeartbeats 8000000 in
set_option maxRecDepth 100000 in
theorem rcmdS_calls {w : World} {pr : Nat} {st : Option (List B8)} (h : RdS w pr st) :
    Calls Try.prog 30 #[.pointer (some ⟨pr, 0, none⟩)] w (RCmdS w pr st) := by
  have hpr : pr < w.heap.size := h.lt
  obtain ⟨w3, hw3, hB3, hr3, hg3, hz3⟩ := two_boxes w
  have HW3 := Lib.hid hw3
  have HR3 := Lib.hid hr3
  have HN1 := Lib.hid (rnumS_calls (h.belowB hB3 hpr))
  have HT3 := Lib.hid (Two.refl w3 pr (w.heap.size + 1))
  clear hw3 h
  go_enter Try.func30, Try.ntmps30
  go_wp2_with fail
  have hw3 := HW3.out
  rw [← hw3]
  clear hw3 HW3
  refine HN1.out.mono ?_
  rintro e w4 ⟨m1, s1, rfl, hS1, hgr, hstep⟩
  have H1 := Lib.hid (show StepG (numR 1152921504606846976) st m1 s1 from hstep)
  have hg4 := (hgr.block (w.heap.size + 1) (by omega) (by intro he; injection he with he; omega)).trans hg3
  have hr4 := (hgr.block w.heap.size (by omega) (by intro he; injection he with he; omega)).trans hr3
  have HT4 := Lib.hid (HT3.out.trans (Two.of1 hgr))
  have hz4 : w.heap.size + 2 ≤ w4.heap.size := Nat.le_trans (Nat.le_of_eq hz3.symm) hgr.size
  clear hstep hgr hg3 hr3 HN1
  have HN2 := Lib.hid (rnumS_calls hS1)
  clear hS1
  go_wp2_with fail
  refine HN2.out.mono ?_
  rintro e w5 ⟨m2, s2, rfl, hS2, hgr, hstep⟩
  have H2 := Lib.hid (show StepG (numR 1152921504606846976) s1 m2 s2 from hstep)
  have hg5 := (hgr.block (w.heap.size + 1) (by omega) (by intro he; injection he with he; omega)).trans hg4
  have hr5 := (hgr.block w.heap.size (by omega) (by intro he; injection he with he; omega)).trans hr4
  have HT5 := Lib.hid (HT4.out.trans (Two.of1 hgr))
  have hz5 : w.heap.size + 2 ≤ w5.heap.size := Nat.le_trans hz4 hgr.size
  clear hstep hgr hg4 hr4 HN2
  have HN3 := Lib.hid (rnumS_calls hS2)
  clear hS2
  go_wp2_with fail
  refine HN3.out.mono ?_
  rintro e w6 ⟨m3, s3, rfl, hS3, hgr, hstep⟩
  have H3 := Lib.hid (show StepG (numR 1152921504606846976) s2 m3 s3 from hstep)
  have hg6 := (hgr.block (w.heap.size + 1) (by omega) (by intro he; injection he with he; omega)).trans hg5
  have hr6 := (hgr.block w.heap.size (by omega) (by intro he; injection he with he; omega)).trans hr5
  have HT6 := Lib.hid (HT5.out.trans (Two.of1 hgr))
  have hz6 : w.heap.size + 2 ≤ w6.heap.size := Nat.le_trans hz5 hgr.size
  clear hstep hgr hg5 hr5 HN3
  have HN4 := Lib.hid (rnumS_calls hS3)
  clear hS3
  go_wp2_with fail
  refine HN4.out.mono ?_
  rintro e w7 ⟨m4, s4, rfl, hS4, hgr, hstep⟩
  have H4 := Lib.hid (show StepG (numR 1152921504606846976) s3 m4 s4 from hstep)
  have hg7 := (hgr.block (w.heap.size + 1) (by omega) (by intro he; injection he with he; omega)).trans hg6
  have hr7 := (hgr.block w.heap.size (by omega) (by intro he; injection he with he; omega)).trans hr6
  have HT7 := Lib.hid (HT6.out.trans (Two.of1 hgr))
  have hz7 : w.heap.size + 2 ≤ w7.heap.size := Nat.le_trans hz6 hgr.size
  clear hstep hgr hg6 hr6 HN4
  have HN5 := Lib.hid (rnumS_calls hS4)
  clear hS4
  go_wp2_with fail
  refine HN5.out.mono ?_
  rintro e w8 ⟨m5, s5, rfl, hS5, hgr, hstep⟩
  have H5 := Lib.hid (show StepG (numR 1152921504606846976) s4 m5 s5 from hstep)
  have hg8 := (hgr.block (w.heap.size + 1) (by omega) (by intro he; injection he with he; omega)).trans hg7
  have hr8 := (hgr.block w.heap.size (by omega) (by intro he; injection he with he; omega)).trans hr7
  have HT8 := Lib.hid (HT7.out.trans (Two.of1 hgr))
  have hz8 : w.heap.size + 2 ≤ w8.heap.size := Nat.le_trans hz7 hgr.size
  clear hstep hgr hg7 hr7 HN5
  have hc := cells_of (c := zeroC) (v := .slice none 0 0) hg8
  simp only [zeroC] at hc
  obtain ⟨e0, e1, e2, e3, e4, e5, e6, e7, e8, e9, e10, e11⟩ := hc
  have hfz := fun o => frozen_of_row w8 (w.heap.size + 1) o _ _ hg8
  have p0 := put_step 0 (.int .i64 (m1 : Int)) hg8 hS5 HT8.out (by omega)
  have p1 := put_step 1 (.int .i64 (m2 : Int)) p0.1 p0.2.1 p0.2.2.1 (by omega)
  have p2 := put_step 3 (.int .i64 (m3 : Int)) p1.1 p1.2.1 p1.2.2.1 (by omega)
  have p3 := put_step 4 (.int .i64 (m4 : Int)) p2.1 p2.2.1 p2.2.2.1 (by omega)
  have p4 := put_step 5 (.int .i64 (m5 : Int)) p3.1 p3.2.1 p3.2.2.1 (by omega)
  have hz9 : w.heap.size + 2 ≤ (((((w8.setCell ⟨w.heap.size + 1, 0, none⟩ (.int .i64 (m1 : Int))).setCell ⟨w.heap.size + 1, 1, none⟩ (.int .i64 (m2 : Int))).setCell ⟨w.heap.size + 1, 3, none⟩ (.int .i64 (m3 : Int))).setCell ⟨w.heap.size + 1, 4, none⟩ (.int .i64 (m4 : Int))).setCell ⟨w.heap.size + 1, 5, none⟩ (.int .i64 (m5 : Int))).heap.size := by simpa using hz8
  have hg9 : (((((w8.setCell ⟨w.heap.size + 1, 0, none⟩ (.int .i64 (m1 : Int))).setCell ⟨w.heap.size + 1, 1, none⟩ (.int .i64 (m2 : Int))).setCell ⟨w.heap.size + 1, 3, none⟩ (.int .i64 (m3 : Int))).setCell ⟨w.heap.size + 1, 4, none⟩ (.int .i64 (m4 : Int))).setCell ⟨w.heap.size + 1, 5, none⟩ (.int .i64 (m5 : Int))).heap[w.heap.size + 1]? = some (.cells #[.int .i64 (Cm.mk (m1 : Int) (m2 : Int) ⟨#[]⟩ (m3 : Int) (m4 : Int) (m5 : Int) 0 0 0 0 0).id, .int .i64 (Cm.mk (m1 : Int) (m2 : Int) ⟨#[]⟩ (m3 : Int) (m4 : Int) (m5 : Int) 0 0 0 0 0).kind, .string (Cm.mk (m1 : Int) (m2 : Int) ⟨#[]⟩ (m3 : Int) (m4 : Int) (m5 : Int) 0 0 0 0 0).key, .int .i64 (Cm.mk (m1 : Int) (m2 : Int) ⟨#[]⟩ (m3 : Int) (m4 : Int) (m5 : Int) 0 0 0 0 0).blob, .int .i64 (Cm.mk (m1 : Int) (m2 : Int) ⟨#[]⟩ (m3 : Int) (m4 : Int) (m5 : Int) 0 0 0 0 0).other, .int .i64 (Cm.mk (m1 : Int) (m2 : Int) ⟨#[]⟩ (m3 : Int) (m4 : Int) (m5 : Int) 0 0 0 0 0).index, .int .i64 (Cm.mk (m1 : Int) (m2 : Int) ⟨#[]⟩ (m3 : Int) (m4 : Int) (m5 : Int) 0 0 0 0 0).node, .int .i64 (Cm.mk (m1 : Int) (m2 : Int) ⟨#[]⟩ (m3 : Int) (m4 : Int) (m5 : Int) 0 0 0 0 0).size, .int .u32 (Cm.mk (m1 : Int) (m2 : Int) ⟨#[]⟩ (m3 : Int) (m4 : Int) (m5 : Int) 0 0 0 0 0).sum, .int .i64 (Cm.mk (m1 : Int) (m2 : Int) ⟨#[]⟩ (m3 : Int) (m4 : Int) (m5 : Int) 0 0 0 0 0).k, .int .i64 (Cm.mk (m1 : Int) (m2 : Int) ⟨#[]⟩ (m3 : Int) (m4 : Int) (m5 : Int) 0 0 0 0 0).m, .slice none 0 0] 27 (0, 0)) := p4.1
  have hr9 := (p4.2.2.2 w.heap.size (by omega)).trans ((p3.2.2.2 w.heap.size (by omega)).trans ((p2.2.2.2 w.heap.size (by omega)).trans ((p1.2.2.2 w.heap.size (by omega)).trans ((p0.2.2.2 w.heap.size (by omega)).trans (hr8)))))
  have hSn := p4.2.1
  have HT9 := Lib.hid p4.2.2.1
  have HN6 := Lib.hid (rnumS_calls hSn)
  clear p4 p3 p2 p1 p0 hS5 hSn
  have HG := Lib.hid hg9
  have HR := Lib.hid hr9
  clear hg9 hr9
  go_wp2_with fail
  have hg9 := HG.out
  have hr9 := HR.out
  clear HG HR hg8 hr8 e0 e1 e2 e3 e4 e5 e6 e7 e8 e9 e10 e11 hfz
  generalize (((((w8.setCell ⟨w.heap.size + 1, 0, none⟩ (.int .i64 (m1 : Int))).setCell ⟨w.heap.size + 1, 1, none⟩ (.int .i64 (m2 : Int))).setCell ⟨w.heap.size + 1, 3, none⟩ (.int .i64 (m3 : Int))).setCell ⟨w.heap.size + 1, 4, none⟩ (.int .i64 (m4 : Int))).setCell ⟨w.heap.size + 1, 5, none⟩ (.int .i64 (m5 : Int))) = w9 at *
  refine HN6.out.mono ?_
  rintro e w10 ⟨m6, s6, rfl, hS6, hgr, hstep⟩
  have H6 := Lib.hid (show StepG (numR 1152921504606846976) s5 m6 s6 from hstep)
  have hg10 := (hgr.block (w.heap.size + 1) (by omega) (by intro he; injection he with he; omega)).trans hg9
  have hr10 := (hgr.block w.heap.size (by omega) (by intro he; injection he with he; omega)).trans hr9
  have HT10 := Lib.hid (HT9.out.trans (Two.of1 hgr))
  have hz10 : w.heap.size + 2 ≤ w10.heap.size := Nat.le_trans hz9 hgr.size
  clear hstep hgr hg9 hr9 HN6
  have HN7 := Lib.hid (rnumS_calls hS6)
  clear hS6
  go_wp2_with fail
  refine HN7.out.mono ?_
  rintro e w11 ⟨m7, s7, rfl, hS7, hgr, hstep⟩
  have H7 := Lib.hid (show StepG (numR 1152921504606846976) s6 m7 s7 from hstep)
  have hg11 := (hgr.block (w.heap.size + 1) (by omega) (by intro he; injection he with he; omega)).trans hg10
  have hr11 := (hgr.block w.heap.size (by omega) (by intro he; injection he with he; omega)).trans hr10
  have HT11 := Lib.hid (HT10.out.trans (Two.of1 hgr))
  have hz11 : w.heap.size + 2 ≤ w11.heap.size := Nat.le_trans hz10 hgr.size
  clear hstep hgr hg10 hr10 HN7
  have hc := cells_of (c := (Cm.mk (m1 : Int) (m2 : Int) ⟨#[]⟩ (m3 : Int) (m4 : Int) (m5 : Int) 0 0 0 0 0)) (v := .slice none 0 0) hg11
  simp only [zeroC] at hc
  obtain ⟨e0, e1, e2, e3, e4, e5, e6, e7, e8, e9, e10, e11⟩ := hc
  have hfz := fun o => frozen_of_row w11 (w.heap.size + 1) o _ _ hg11
  have p0 := put_step 6 (.int .i64 (m6 : Int)) hg11 hS7 HT11.out (by omega)
  have p1 := put_step 7 (.int .i64 (m7 : Int)) p0.1 p0.2.1 p0.2.2.1 (by omega)
  have hz12 : w.heap.size + 2 ≤ ((w11.setCell ⟨w.heap.size + 1, 6, none⟩ (.int .i64 (m6 : Int))).setCell ⟨w.heap.size + 1, 7, none⟩ (.int .i64 (m7 : Int))).heap.size := by simpa using hz11
  have hg12 : ((w11.setCell ⟨w.heap.size + 1, 6, none⟩ (.int .i64 (m6 : Int))).setCell ⟨w.heap.size + 1, 7, none⟩ (.int .i64 (m7 : Int))).heap[w.heap.size + 1]? = some (.cells #[.int .i64 (Cm.mk (m1 : Int) (m2 : Int) ⟨#[]⟩ (m3 : Int) (m4 : Int) (m5 : Int) (m6 : Int) (m7 : Int) 0 0 0).id, .int .i64 (Cm.mk (m1 : Int) (m2 : Int) ⟨#[]⟩ (m3 : Int) (m4 : Int) (m5 : Int) (m6 : Int) (m7 : Int) 0 0 0).kind, .string (Cm.mk (m1 : Int) (m2 : Int) ⟨#[]⟩ (m3 : Int) (m4 : Int) (m5 : Int) (m6 : Int) (m7 : Int) 0 0 0).key, .int .i64 (Cm.mk (m1 : Int) (m2 : Int) ⟨#[]⟩ (m3 : Int) (m4 : Int) (m5 : Int) (m6 : Int) (m7 : Int) 0 0 0).blob, .int .i64 (Cm.mk (m1 : Int) (m2 : Int) ⟨#[]⟩ (m3 : Int) (m4 : Int) (m5 : Int) (m6 : Int) (m7 : Int) 0 0 0).other, .int .i64 (Cm.mk (m1 : Int) (m2 : Int) ⟨#[]⟩ (m3 : Int) (m4 : Int) (m5 : Int) (m6 : Int) (m7 : Int) 0 0 0).index, .int .i64 (Cm.mk (m1 : Int) (m2 : Int) ⟨#[]⟩ (m3 : Int) (m4 : Int) (m5 : Int) (m6 : Int) (m7 : Int) 0 0 0).node, .int .i64 (Cm.mk (m1 : Int) (m2 : Int) ⟨#[]⟩ (m3 : Int) (m4 : Int) (m5 : Int) (m6 : Int) (m7 : Int) 0 0 0).size, .int .u32 (Cm.mk (m1 : Int) (m2 : Int) ⟨#[]⟩ (m3 : Int) (m4 : Int) (m5 : Int) (m6 : Int) (m7 : Int) 0 0 0).sum, .int .i64 (Cm.mk (m1 : Int) (m2 : Int) ⟨#[]⟩ (m3 : Int) (m4 : Int) (m5 : Int) (m6 : Int) (m7 : Int) 0 0 0).k, .int .i64 (Cm.mk (m1 : Int) (m2 : Int) ⟨#[]⟩ (m3 : Int) (m4 : Int) (m5 : Int) (m6 : Int) (m7 : Int) 0 0 0).m, .slice none 0 0] 27 (0, 0)) := p1.1
  have hr12 := (p1.2.2.2 w.heap.size (by omega)).trans ((p0.2.2.2 w.heap.size (by omega)).trans (hr11))
  have hSn := p1.2.1
  have HT12 := Lib.hid p1.2.2.1
  have HN8 := Lib.hid (rnumS_calls hSn)
  clear p1 p0 hS7 hSn
  have HG := Lib.hid hg12
  have HR := Lib.hid hr12
  clear hg12 hr12
  go_wp2_with fail
  have hg12 := HG.out
  have hr12 := HR.out
  clear HG HR hg11 hr11 e0 e1 e2 e3 e4 e5 e6 e7 e8 e9 e10 e11 hfz
  generalize ((w11.setCell ⟨w.heap.size + 1, 6, none⟩ (.int .i64 (m6 : Int))).setCell ⟨w.heap.size + 1, 7, none⟩ (.int .i64 (m7 : Int))) = w12 at *
  refine HN8.out.mono ?_
  rintro e w13 ⟨m8, s8, rfl, hS8, hgr, hstep⟩
  have H8 := Lib.hid (show StepG (numR 1152921504606846976) s7 m8 s8 from hstep)
  have hg13 := (hgr.block (w.heap.size + 1) (by omega) (by intro he; injection he with he; omega)).trans hg12
  have hr13 := (hgr.block w.heap.size (by omega) (by intro he; injection he with he; omega)).trans hr12
  have HT13 := Lib.hid (HT12.out.trans (Two.of1 hgr))
  have hz13 : w.heap.size + 2 ≤ w13.heap.size := Nat.le_trans hz12 hgr.size
  clear hstep hgr hg12 hr12 HN8
  have hc := cells_of (c := (Cm.mk (m1 : Int) (m2 : Int) ⟨#[]⟩ (m3 : Int) (m4 : Int) (m5 : Int) (m6 : Int) (m7 : Int) 0 0 0)) (v := .slice none 0 0) hg13
  simp only [zeroC] at hc
  obtain ⟨e0, e1, e2, e3, e4, e5, e6, e7, e8, e9, e10, e11⟩ := hc
  have hfz := fun o => frozen_of_row w13 (w.heap.size + 1) o _ _ hg13
  obtain ⟨sm, hsm⟩ : ∃ sm, sm = m8 % 4294967296 := ⟨_, rfl⟩
  have p0 := put_step 8 (.int .u32 (sm : Int)) hg13 hS8 HT13.out (by omega)
  have hz14 : w.heap.size + 2 ≤ (w13.setCell ⟨w.heap.size + 1, 8, none⟩ (.int .u32 (sm : Int))).heap.size := by simpa using hz13
  have hg14 : (w13.setCell ⟨w.heap.size + 1, 8, none⟩ (.int .u32 (sm : Int))).heap[w.heap.size + 1]? = some (.cells #[.int .i64 (Cm.mk (m1 : Int) (m2 : Int) ⟨#[]⟩ (m3 : Int) (m4 : Int) (m5 : Int) (m6 : Int) (m7 : Int) (sm : Int) 0 0).id, .int .i64 (Cm.mk (m1 : Int) (m2 : Int) ⟨#[]⟩ (m3 : Int) (m4 : Int) (m5 : Int) (m6 : Int) (m7 : Int) (sm : Int) 0 0).kind, .string (Cm.mk (m1 : Int) (m2 : Int) ⟨#[]⟩ (m3 : Int) (m4 : Int) (m5 : Int) (m6 : Int) (m7 : Int) (sm : Int) 0 0).key, .int .i64 (Cm.mk (m1 : Int) (m2 : Int) ⟨#[]⟩ (m3 : Int) (m4 : Int) (m5 : Int) (m6 : Int) (m7 : Int) (sm : Int) 0 0).blob, .int .i64 (Cm.mk (m1 : Int) (m2 : Int) ⟨#[]⟩ (m3 : Int) (m4 : Int) (m5 : Int) (m6 : Int) (m7 : Int) (sm : Int) 0 0).other, .int .i64 (Cm.mk (m1 : Int) (m2 : Int) ⟨#[]⟩ (m3 : Int) (m4 : Int) (m5 : Int) (m6 : Int) (m7 : Int) (sm : Int) 0 0).index, .int .i64 (Cm.mk (m1 : Int) (m2 : Int) ⟨#[]⟩ (m3 : Int) (m4 : Int) (m5 : Int) (m6 : Int) (m7 : Int) (sm : Int) 0 0).node, .int .i64 (Cm.mk (m1 : Int) (m2 : Int) ⟨#[]⟩ (m3 : Int) (m4 : Int) (m5 : Int) (m6 : Int) (m7 : Int) (sm : Int) 0 0).size, .int .u32 (Cm.mk (m1 : Int) (m2 : Int) ⟨#[]⟩ (m3 : Int) (m4 : Int) (m5 : Int) (m6 : Int) (m7 : Int) (sm : Int) 0 0).sum, .int .i64 (Cm.mk (m1 : Int) (m2 : Int) ⟨#[]⟩ (m3 : Int) (m4 : Int) (m5 : Int) (m6 : Int) (m7 : Int) (sm : Int) 0 0).k, .int .i64 (Cm.mk (m1 : Int) (m2 : Int) ⟨#[]⟩ (m3 : Int) (m4 : Int) (m5 : Int) (m6 : Int) (m7 : Int) (sm : Int) 0 0).m, .slice none 0 0] 27 (0, 0)) := p0.1
  have hr14 := (p0.2.2.2 w.heap.size (by omega)).trans (hr13)
  have hSn := p0.2.1
  have HT14 := Lib.hid p0.2.2.1
  have HN9 := Lib.hid (rnumS_calls hSn)
  clear p0 hS8 hSn
  have HG := Lib.hid hg14
  have HR := Lib.hid hr14
  clear hg14 hr14
  have hsl : sm < 4294967296 := by omega
  have hrem := rem32 hsm
  have hwr := wrap32n hsl
  have HSM := Lib.hid hsm
  clear hsl
  clear hsm
  go_wp2_with fail
  clear hrem hwr
  have hg14 := HG.out
  have hr14 := HR.out
  clear HG HR hg13 hr13 e0 e1 e2 e3 e4 e5 e6 e7 e8 e9 e10 e11 hfz
  generalize (w13.setCell ⟨w.heap.size + 1, 8, none⟩ (.int .u32 (sm : Int))) = w14 at *
  refine HN9.out.mono ?_
  rintro e w15 ⟨m9, s9, rfl, hS9, hgr, hstep⟩
  have H9 := Lib.hid (show StepG (numR 1152921504606846976) s8 m9 s9 from hstep)
  have hg15 := (hgr.block (w.heap.size + 1) (by omega) (by intro he; injection he with he; omega)).trans hg14
  have hr15 := (hgr.block w.heap.size (by omega) (by intro he; injection he with he; omega)).trans hr14
  have HT15 := Lib.hid (HT14.out.trans (Two.of1 hgr))
  have hz15 : w.heap.size + 2 ≤ w15.heap.size := Nat.le_trans hz14 hgr.size
  clear hstep hgr hg14 hr14 HN9
  have HN10 := Lib.hid (rnumS_calls hS9)
  clear hS9
  go_wp2_with fail
  refine HN10.out.mono ?_
  rintro e w16 ⟨m10, s10, rfl, hS10, hgr, hstep⟩
  have H10 := Lib.hid (show StepG (numR 1152921504606846976) s9 m10 s10 from hstep)
  have hg16 := (hgr.block (w.heap.size + 1) (by omega) (by intro he; injection he with he; omega)).trans hg15
  have hr16 := (hgr.block w.heap.size (by omega) (by intro he; injection he with he; omega)).trans hr15
  have HT16 := Lib.hid (HT15.out.trans (Two.of1 hgr))
  have hz16 : w.heap.size + 2 ≤ w16.heap.size := Nat.le_trans hz15 hgr.size
  clear hstep hgr hg15 hr15 HN10
  have hc := cells_of (c := (Cm.mk (m1 : Int) (m2 : Int) ⟨#[]⟩ (m3 : Int) (m4 : Int) (m5 : Int) (m6 : Int) (m7 : Int) (sm : Int) 0 0)) (v := .slice none 0 0) hg16
  obtain ⟨e0, e1, e2, e3, e4, e5, e6, e7, e8, e9, e10, e11⟩ := hc
  have hfz := fun o => frozen_of_row w16 (w.heap.size + 1) o _ _ hg16
  have p0 := put_step 9 (.int .i64 (m9 : Int)) hg16 hS10 HT16.out (by omega)
  have p1 := put_step 10 (.int .i64 (m10 : Int)) p0.1 p0.2.1 p0.2.2.1 (by omega)
  have hz17 : w.heap.size + 2 ≤ ((w16.setCell ⟨w.heap.size + 1, 9, none⟩ (.int .i64 (m9 : Int))).setCell ⟨w.heap.size + 1, 10, none⟩ (.int .i64 (m10 : Int))).heap.size := by simpa using hz16
  have hg17 : ((w16.setCell ⟨w.heap.size + 1, 9, none⟩ (.int .i64 (m9 : Int))).setCell ⟨w.heap.size + 1, 10, none⟩ (.int .i64 (m10 : Int))).heap[w.heap.size + 1]? = some (.cells #[.int .i64 (Cm.mk (m1 : Int) (m2 : Int) ⟨#[]⟩ (m3 : Int) (m4 : Int) (m5 : Int) (m6 : Int) (m7 : Int) (sm : Int) (m9 : Int) (m10 : Int)).id, .int .i64 (Cm.mk (m1 : Int) (m2 : Int) ⟨#[]⟩ (m3 : Int) (m4 : Int) (m5 : Int) (m6 : Int) (m7 : Int) (sm : Int) (m9 : Int) (m10 : Int)).kind, .string (Cm.mk (m1 : Int) (m2 : Int) ⟨#[]⟩ (m3 : Int) (m4 : Int) (m5 : Int) (m6 : Int) (m7 : Int) (sm : Int) (m9 : Int) (m10 : Int)).key, .int .i64 (Cm.mk (m1 : Int) (m2 : Int) ⟨#[]⟩ (m3 : Int) (m4 : Int) (m5 : Int) (m6 : Int) (m7 : Int) (sm : Int) (m9 : Int) (m10 : Int)).blob, .int .i64 (Cm.mk (m1 : Int) (m2 : Int) ⟨#[]⟩ (m3 : Int) (m4 : Int) (m5 : Int) (m6 : Int) (m7 : Int) (sm : Int) (m9 : Int) (m10 : Int)).other, .int .i64 (Cm.mk (m1 : Int) (m2 : Int) ⟨#[]⟩ (m3 : Int) (m4 : Int) (m5 : Int) (m6 : Int) (m7 : Int) (sm : Int) (m9 : Int) (m10 : Int)).index, .int .i64 (Cm.mk (m1 : Int) (m2 : Int) ⟨#[]⟩ (m3 : Int) (m4 : Int) (m5 : Int) (m6 : Int) (m7 : Int) (sm : Int) (m9 : Int) (m10 : Int)).node, .int .i64 (Cm.mk (m1 : Int) (m2 : Int) ⟨#[]⟩ (m3 : Int) (m4 : Int) (m5 : Int) (m6 : Int) (m7 : Int) (sm : Int) (m9 : Int) (m10 : Int)).size, .int .u32 (Cm.mk (m1 : Int) (m2 : Int) ⟨#[]⟩ (m3 : Int) (m4 : Int) (m5 : Int) (m6 : Int) (m7 : Int) (sm : Int) (m9 : Int) (m10 : Int)).sum, .int .i64 (Cm.mk (m1 : Int) (m2 : Int) ⟨#[]⟩ (m3 : Int) (m4 : Int) (m5 : Int) (m6 : Int) (m7 : Int) (sm : Int) (m9 : Int) (m10 : Int)).k, .int .i64 (Cm.mk (m1 : Int) (m2 : Int) ⟨#[]⟩ (m3 : Int) (m4 : Int) (m5 : Int) (m6 : Int) (m7 : Int) (sm : Int) (m9 : Int) (m10 : Int)).m, .slice none 0 0] 27 (0, 0)) := p1.1
  have hr17 := (p1.2.2.2 w.heap.size (by omega)).trans ((p0.2.2.2 w.heap.size (by omega)).trans hr16)
  have hSn := p1.2.1
  have HT17 := Lib.hid p1.2.2.1
  have HN11 := Lib.hid (rlistS_calls (most := 8) hSn (by decide))
  clear p1 p0 hS10 hSn
  have HG := Lib.hid hg17
  have HR := Lib.hid hr17
  clear hg17 hr17
  go_wp2_with fail
  have hg17 := HG.out
  have hr17 := HR.out
  clear HG HR hg16 hr16 e0 e1 e2 e3 e4 e5 e6 e7 e8 e9 e10 e11 hfz
  generalize ((w16.setCell ⟨w.heap.size + 1, 9, none⟩ (.int .i64 (m9 : Int))).setCell ⟨w.heap.size + 1, 10, none⟩ (.int .i64 (m10 : Int))) = w17 at *
  refine HN11.out.mono ?_
  rintro e w18 ⟨m11, s11, rfl, hS11, hgr, hstep, hm11⟩
  have H11 := Lib.hid (show StepG (numR 8) s10 m11 s11 from hstep)
  have hg18 := (hgr.block (w.heap.size + 1) (by omega) (by intro he; injection he with he; omega)).trans hg17
  have hr18 := (hgr.block w.heap.size (by omega) (by intro he; injection he with he; omega)).trans hr17
  have HT18 := Lib.hid (HT17.out.trans (Two.of1 hgr))
  have hz18 : w.heap.size + 2 ≤ w18.heap.size := Nat.le_trans hz17 hgr.size
  clear hstep hgr hg17 hr17 HN11
  have HN12 := Lib.hid (rtakeS_calls hS11 m11)
  clear hS11
  go_wp2_with fail
  refine HN12.out.mono ?_
  rintro e w19 ⟨A12, d12, t12, s12, rfl, hA12, hfar12, hnil12, hS12, hgr, hstep, hlt12, hcap12⟩
  have H12 := Lib.hid hstep
  have hg19 := (hgr.block (w.heap.size + 1) (by omega) (by intro he; injection he with he; omega)).trans hg18
  have hr19 := (hgr.block w.heap.size (by omega) (by intro he; injection he with he; omega)).trans hr18
  have HT19 := Lib.hid (HT18.out.trans (Two.of1 hgr))
  have hz19 : w.heap.size + 2 ≤ w19.heap.size := Nat.le_trans hz18 hgr.size
  clear hstep hgr hg18 hr18 HN12
  have hcv := conv_str (P := Try.prog) w19 28 9 5 Try.underlying28 Try.underlying5 Try.underlying9 (c := d12) hA12 (n := t12.length) rfl
  obtain ⟨key, hkey⟩ : ∃ key, key = str t12 := ⟨_, rfl⟩
  rw [← hkey] at hcv
  have HKEY := Lib.hid hkey
  clear hkey
  have hcc := cell_of_row _ _ 2 _ _ (0, 0) hg19
  have hff := frozen_of_row _ _ 2 _ _ hg19
  simp only [List.getElem?_toArray, List.getElem?_cons_succ, List.getElem?_cons_zero] at hcc
  have p0 := put_step 2 (.string key) hg19 hS12 HT19.out (by omega)
  obtain ⟨c1, hc1⟩ : ∃ c1 : Cm, c1 = Cm.mk (m1 : Int) (m2 : Int) key (m3 : Int) (m4 : Int) (m5 : Int) (m6 : Int) (m7 : Int) (sm : Int) (m9 : Int) (m10 : Int) := ⟨_, rfl⟩
  have hz20 : w.heap.size + 2 ≤ (w19.setCell ⟨w.heap.size + 1, 2, none⟩ (.string key)).heap.size := by simpa using hz19
  have hg20 : (w19.setCell ⟨w.heap.size + 1, 2, none⟩ (.string key)).heap[w.heap.size + 1]? = some (.cells #[.int .i64 c1.id, .int .i64 c1.kind, .string c1.key, .int .i64 c1.blob, .int .i64 c1.other, .int .i64 c1.index, .int .i64 c1.node, .int .i64 c1.size, .int .u32 c1.sum, .int .i64 c1.k, .int .i64 c1.m, .slice none 0 0] 27 (0, 0)) := by rw [hc1]; exact p0.1
  have hr20 := (p0.2.2.2 w.heap.size (by omega)).trans hr19
  have hSn := p0.2.1
  have HT20 := Lib.hid p0.2.2.1
  have HN13 := Lib.hid (rlistS_calls (most := 255) hSn (by decide))
  have HC1 := Lib.hid hc1
  clear p0 hS12 hSn hc1
  have HG := Lib.hid hg20
  have HR := Lib.hid hr20
  clear hg20 hr20 hA12 hfar12 hnil12
  go_wp2_with fail
  have hg20 := HG.out
  have hr20 := HR.out
  clear HG HR hg19 hr19 hcc hff hcv
  generalize w19.setCell ⟨w.heap.size + 1, 2, none⟩ (.string key) = w20 at *
  refine HN13.out.mono ?_
  rintro e w21 ⟨m13, s13, rfl, hS13, hgr, hstep, hm13⟩
  have H13 := Lib.hid (show StepG (numR 255) s12 m13 s13 from hstep)
  have hg21 := (hgr.block (w.heap.size + 1) (by omega) (by intro he; injection he with he; omega)).trans hg20
  have HR21 := Lib.hid ((hgr.block w.heap.size (by omega) (by intro he; injection he with he; omega)).trans hr20)
  have hT21 := HT20.out.trans (Two.of1 hgr)
  have hz21 : w.heap.size + 2 ≤ w21.heap.size := Nat.le_trans hz20 hgr.size
  clear hstep hgr hg20 hr20 HN13
  have hnil21 : w21.ownsRow w3.heap.size 3 1 (.slice none 0 0) 0 (ints (natsV [])) := World.ownsRow_nil _ _ _ _
  go_wp2_with fail
  go_loopw [48] (fun s48 wr => ∃ (t : Nat) (ms : List Nat) (sl : Option (List B8)) (P : Option Addr) (e' : Nat), t ≤ m13 ∧ s48 = .int .i64 ((t : Nat) : Int) ∧ ms.length = t ∧ Hid (StepG (numsR 1152921504606846976 t) s13 ms sl) ∧ RdS wr pr sl ∧ wr.heap[w.heap.size + 1]? = some (.cells #[.int .i64 c1.id, .int .i64 c1.kind, .string c1.key, .int .i64 c1.blob, .int .i64 c1.other, .int .i64 c1.index, .int .i64 c1.node, .int .i64 c1.size, .int .u32 c1.sum, .int .i64 c1.k, .int .i64 c1.m, .slice P t e'] 27 (0, 0)) ∧ wr.ownsRow w3.heap.size 3 1 (.slice P t e') t (ints (natsV ms)) ∧ Two w3 wr pr (w.heap.size + 1)) (fun s48 _ => m13 - (intOf s48).toNat)
  case atStart => exact ⟨0, [], s13, none, 0, by omega, rfl, rfl, Lib.hid StepG.nil, hS13, hg21, hnil21, hT21⟩
  case round =>
    obtain ⟨t, ms, sl, P, e', ht, rfl, hms, HNS, hS, hg, hown, hT⟩ := hrel
    rename World => w13
    clear hS13 hg21 hnil21 hT21
    by_cases htn : t < m13
    · have hti : (t : Int) < (m13 : Int) := by omega
      go_wp2_with fail
      have hD : Below w13.heap.size w13 w13.drew := (belowN 1 : Below w13.heap.size w13 (w13.drewN 1))
      have hzz := hT.size
      have hSD := hS.belowB hD (by omega)
      have hgD := (hD.block (w.heap.size + 1) (by omega)).trans hg
      have hownD := own_below hown hD
      have hTD := hT.below (hD.mono hzz)
      have hzD : w3.heap.size ≤ w13.drew.heap.size := Nat.le_trans hzz hD.size
      refine wp_region_held_drew (S := fun _ => True) (by kernel_rfl) trivial (fun _ => ?_)
      generalize w13.drew = WE at *
      clear hD hS hg hown hT
      have HN6 := Lib.hid (rnumS_calls hSD)
      have hcE := cell_of_row _ _ 11 _ _ (0, 0) hgD
      simp only [List.getElem?_toArray, List.getElem?_cons_succ, List.getElem?_cons_zero] at hcE
      refine wpAnyH_take (i := 0) (v := ?_) rfl (by kernel_rfl) (by kernel_rfl) (by kernel_rfl) (fun _ _ _ h => h) (Or.inl ⟨by rfl, ?_⟩) (by assumption) ?_; rotate_left; (intro w hSw; (try dsimp only at hSw); go_simp; (first | done | (with_reducible rfl))); (try simp only [List.getElem_toArray, List.getElem_cons_succ, List.getElem_cons_zero, Act.put, List.setIfInBounds_toArray, List.set_cons_zero, List.set_cons_succ])
      refine wpAnyH_take (i := 2) (v := ?_) rfl (by kernel_rfl) (by kernel_rfl) (by kernel_rfl) (fun _ _ _ h => h) (Or.inl ⟨by rfl, ?_⟩) (by assumption) ?_; rotate_left; (intro w hSw; (try dsimp only at hSw); go_simp; (first | done | (with_reducible rfl))); (try simp only [List.getElem_toArray, List.getElem_cons_succ, List.getElem_cons_zero, Act.put, List.setIfInBounds_toArray, List.set_cons_zero, List.set_cons_succ])
      refine wpAnyH_ready (rs := [1, 3]) (by kernel_rfl) (by simp) ?_
      refine AllReadyH.cons rfl (fun KK hKK => ?_) (AllReadyH.cons rfl (fun KK hKK => ?_) AllReadyH.nil)
      · go_simp
        go_wp2_with fail
        refine hKK.out _ _ trivial (fun _ => ?_)
        clear hKK KK
        (try simp only [List.getElem_toArray, List.getElem_cons_succ, List.getElem_cons_zero, Act.put, List.setIfInBounds_toArray, List.set_cons_zero, List.set_cons_succ])
        refine wpAnyH_ready (rs := [3]) (by kernel_rfl) (by simp) ?_; refine AllReadyH.cons rfl (fun KK hKK => ?_) AllReadyH.nil
        go_simp
        refine HN6.out.mono ?_
        rintro e w14 ⟨x, s15, rfl, hS14, hgr14, hstep⟩
        have HNL := Lib.hid (show StepG (numR 1152921504606846976) sl x s15 from hstep)
        have hg14 := (hgr14.block (w.heap.size + 1) (by omega) (by intro he; injection he with he; omega)).trans hgD
        have hT14 := hTD.trans (Two.of1 hgr14)
        clear hSD hgD hTD HN6 hcE
        go_wp2_with fail
        refine hKK.out _ _ trivial (fun _ => ?_)
        clear hKK KK
        (try simp only [List.getElem_toArray, List.getElem_cons_succ, List.getElem_cons_zero, Act.put, List.setIfInBounds_toArray, List.set_cons_zero, List.set_cons_succ])
        have hown14 : w14.ownsRow w3.heap.size 3 1 (.slice P t e') t (ints (natsV ms)) := own_keep hownD hgr14 (by omega)
        have hz14 := Nat.le_trans hzD hgr14.size
        have hbl := below1' w14 (.cells #[.int .i64 (x : Int)] 3)
        have hlit : At (w14.alloc (.cells #[.int .i64 (x : Int)] 3)) (some ⟨w14.heap.size, 0, none⟩) (ints (natsV [x])) := at_new w14 #[.int .i64 (x : Int)] 3 (0, 0)
        have hown15 := own_below hown14 hbl
        have hg15 := (hbl.block (w.heap.size + 1) (by omega)).trans hg14
        have hS15 := hS14.belowB hbl (by omega)
        have hT15 := (hT14.below (hbl.mono (by omega)))
        have hz15 : w3.heap.size ≤ (w14.alloc (.cells #[.int .i64 (x : Int)] 3)).heap.size := by simp; omega
        clear hownD hown14 hg14 hS14 hT14 hbl
        refine wpAnyH_ready (rs := [4]) (by kernel_rfl) (by simp) ?_; refine AllReadyH.cons rfl (fun KK hKK => ?_) AllReadyH.nil
        go_simp
        go_wp2_with fail
        refine hKK.out _ _ trivial (fun _ => ?_)
        clear hKK KK
        (try simp only [List.getElem_toArray, List.getElem_cons_succ, List.getElem_cons_zero, Act.put, List.setIfInBounds_toArray, List.set_cons_zero, List.set_cons_succ])
        refine wpAnyH_ready (rs := [5]) (by kernel_rfl) (by simp) ?_; refine AllReadyH.cons rfl (fun KK hKK => ?_) AllReadyH.nil
        refine step_app_ints rfl (.tmp 51) (.tmp 54) rfl w3.heap.size (v := .slice P t e') rfl hown15 rfl (news := natsV [x]) rfl hlit (by intro h; cases h) (by omega) hz15 ?_
        intro A16 c16 w16 ho16 hb16
        have hg16 := (hb16.block (w.heap.size + 1) (by omega)).trans hg15
        have hc16 := cell_of_row _ _ 11 _ _ (0, 0) hg16
        have hf16 := frozen_of_row _ _ 11 _ _ hg16
        simp only [List.getElem?_toArray, List.getElem?_cons_succ, List.getElem?_cons_zero] at hc16
        refine hKK.out _ _ trivial (fun _ => ?_)
        clear hKK KK
        (try simp only [List.getElem_toArray, List.getElem_cons_succ, List.getElem_cons_zero, Act.put, List.setIfInBounds_toArray, List.set_cons_zero, List.set_cons_succ])
        refine wpAnyH_take (i := 6) (v := ?_) rfl (by kernel_rfl) (by kernel_rfl) (by kernel_rfl) (fun _ _ _ h => h) (Or.inl ⟨by rfl, ?_⟩) (by assumption) ?_; rotate_left; (intro w hSw; (try dsimp only at hSw); go_simp; (first | done | (with_reducible rfl))); (try simp only [List.getElem_toArray, List.getElem_cons_succ, List.getElem_cons_zero, Act.put, List.setIfInBounds_toArray, List.set_cons_zero, List.set_cons_succ])
        refine wpAnyH_ready (rs := [7]) (by kernel_rfl) (by simp) ?_; refine AllReadyH.cons rfl (fun KK hKK => ?_) AllReadyH.nil
        go_simp
        go_wp2_with fail
        refine hKK.out _ _ trivial (fun _ => ?_)
        clear hKK KK
        (try simp only [List.getElem_toArray, List.getElem_cons_succ, List.getElem_cons_zero, Act.put, List.setIfInBounds_toArray, List.set_cons_zero, List.set_cons_succ])
        refine wpAnyH_done (by kernel_rfl) ?_ _
        go_wp2_with fail
        have hsetF := heap_setCell_same w16 (w.heap.size + 1) 11 _ _ (.slice A16 (t + 1) c16) hg16
        have hFF := (hS15.belowB hb16 (by omega)).other (o := 11) (v := .slice A16 (t + 1) c16) (by omega : pr < w.heap.size + 1)
        have hoF := ownsRow_setCell_below ho16 (show w.heap.size + 1 < w3.heap.size by omega) (.slice A16 (t + 1) c16) (a := ⟨w.heap.size + 1, 11, none⟩)
        have hTF := (hT15.below hb16).trans (Two.of2 (p := pr) (grown_set w16 (w.heap.size + 1) 11 (.slice A16 (t + 1) c16)))
        have hnv : natsV ms ++ natsV [x] = natsV (ms ++ [x]) := by simp [natsV]
        rw [hnv] at hoF
        exact ⟨⟨t + 1, ms ++ [x], s15, A16, c16, by omega, by go_num, by simp [hms], Lib.hid (HNS.out.snoc HNL.out), hFF, hsetF, hoF, hTF⟩, by simp [intOf]; omega⟩
      · go_simp
        refine HN6.out.mono ?_
        rintro e w14 ⟨x, s15, rfl, hS14, hgr14, hstep⟩
        have HNL := Lib.hid (show StepG (numR 1152921504606846976) sl x s15 from hstep)
        have hg14 := (hgr14.block (w.heap.size + 1) (by omega) (by intro he; injection he with he; omega)).trans hgD
        have hT14 := hTD.trans (Two.of1 hgr14)
        have hc14 := cell_of_row _ _ 11 _ _ (0, 0) hg14
        simp only [List.getElem?_toArray, List.getElem?_cons_succ, List.getElem?_cons_zero] at hc14
        clear hSD hgD hTD HN6 hcE
        go_wp2_with fail
        refine hKK.out _ _ trivial (fun _ => ?_)
        clear hKK KK
        (try simp only [List.getElem_toArray, List.getElem_cons_succ, List.getElem_cons_zero, Act.put, List.setIfInBounds_toArray, List.set_cons_zero, List.set_cons_succ])
        have hown14 : w14.ownsRow w3.heap.size 3 1 (.slice P t e') t (ints (natsV ms)) := own_keep hownD hgr14 (by omega)
        have hz14 := Nat.le_trans hzD hgr14.size
        have hbl := below1' w14 (.cells #[.int .i64 (x : Int)] 3)
        have hlit : At (w14.alloc (.cells #[.int .i64 (x : Int)] 3)) (some ⟨w14.heap.size, 0, none⟩) (ints (natsV [x])) := at_new w14 #[.int .i64 (x : Int)] 3 (0, 0)
        have hown15 := own_below hown14 hbl
        have hg15 := (hbl.block (w.heap.size + 1) (by omega)).trans hg14
        have hS15 := hS14.belowB hbl (by omega)
        have hT15 := (hT14.below (hbl.mono (by omega)))
        have hz15 : w3.heap.size ≤ (w14.alloc (.cells #[.int .i64 (x : Int)] 3)).heap.size := by simp; omega
        clear hownD hown14 hg14 hS14 hT14 hbl
        have hc15 := cell_of_row _ _ 11 _ _ (0, 0) hg15
        simp only [List.getElem?_toArray, List.getElem?_cons_succ, List.getElem?_cons_zero] at hc15
        refine wpAnyH_ready (rs := [1, 4]) (by kernel_rfl) (by simp) ?_
        refine AllReadyH.cons rfl (fun KK hKK => ?_) (AllReadyH.cons rfl (fun KK hKK => ?_) AllReadyH.nil)
        · skip
          go_simp
          go_wp2_with fail
          refine hKK.out _ _ trivial (fun _ => ?_)
          clear hKK KK
          (try simp only [List.getElem_toArray, List.getElem_cons_succ, List.getElem_cons_zero, Act.put, List.setIfInBounds_toArray, List.set_cons_zero, List.set_cons_succ])
          refine wpAnyH_ready (rs := [4]) (by kernel_rfl) (by simp) ?_; refine AllReadyH.cons rfl (fun KK hKK => ?_) AllReadyH.nil
          go_simp
          go_wp2_with fail
          refine hKK.out _ _ trivial (fun _ => ?_)
          clear hKK KK
          (try simp only [List.getElem_toArray, List.getElem_cons_succ, List.getElem_cons_zero, Act.put, List.setIfInBounds_toArray, List.set_cons_zero, List.set_cons_succ])
          refine wpAnyH_ready (rs := [5]) (by kernel_rfl) (by simp) ?_; refine AllReadyH.cons rfl (fun KK hKK => ?_) AllReadyH.nil
          refine step_app_ints rfl (.tmp 51) (.tmp 54) rfl w3.heap.size (v := .slice P t e') rfl hown15 rfl (news := natsV [x]) rfl hlit (by intro h; cases h) (by omega) hz15 ?_
          intro A16 c16 w16 ho16 hb16
          have hg16 := (hb16.block (w.heap.size + 1) (by omega)).trans hg15
          have hc16 := cell_of_row _ _ 11 _ _ (0, 0) hg16
          have hf16 := frozen_of_row _ _ 11 _ _ hg16
          simp only [List.getElem?_toArray, List.getElem?_cons_succ, List.getElem?_cons_zero] at hc16
          refine hKK.out _ _ trivial (fun _ => ?_)
          clear hKK KK
          (try simp only [List.getElem_toArray, List.getElem_cons_succ, List.getElem_cons_zero, Act.put, List.setIfInBounds_toArray, List.set_cons_zero, List.set_cons_succ])
          refine wpAnyH_take (i := 6) (v := ?_) rfl (by kernel_rfl) (by kernel_rfl) (by kernel_rfl) (fun _ _ _ h => h) (Or.inl ⟨by rfl, ?_⟩) (by assumption) ?_; rotate_left; (intro w hSw; (try dsimp only at hSw); go_simp; (first | done | (with_reducible rfl))); (try simp only [List.getElem_toArray, List.getElem_cons_succ, List.getElem_cons_zero, Act.put, List.setIfInBounds_toArray, List.set_cons_zero, List.set_cons_succ])
          refine wpAnyH_ready (rs := [7]) (by kernel_rfl) (by simp) ?_; refine AllReadyH.cons rfl (fun KK hKK => ?_) AllReadyH.nil
          go_simp
          go_wp2_with fail
          refine hKK.out _ _ trivial (fun _ => ?_)
          clear hKK KK
          (try simp only [List.getElem_toArray, List.getElem_cons_succ, List.getElem_cons_zero, Act.put, List.setIfInBounds_toArray, List.set_cons_zero, List.set_cons_succ])
          refine wpAnyH_done (by kernel_rfl) ?_ _
          go_wp2_with fail
          have hsetF := heap_setCell_same w16 (w.heap.size + 1) 11 _ _ (.slice A16 (t + 1) c16) hg16
          have hFF := (hS15.belowB hb16 (by omega)).other (o := 11) (v := .slice A16 (t + 1) c16) (by omega : pr < w.heap.size + 1)
          have hoF := ownsRow_setCell_below ho16 (show w.heap.size + 1 < w3.heap.size by omega) (.slice A16 (t + 1) c16) (a := ⟨w.heap.size + 1, 11, none⟩)
          have hTF := (hT15.below hb16).trans (Two.of2 (p := pr) (grown_set w16 (w.heap.size + 1) 11 (.slice A16 (t + 1) c16)))
          have hnv : natsV ms ++ natsV [x] = natsV (ms ++ [x]) := by simp [natsV]
          rw [hnv] at hoF
          exact ⟨⟨t + 1, ms ++ [x], s15, A16, c16, by omega, by go_num, by simp [hms], Lib.hid (HNS.out.snoc HNL.out), hFF, hsetF, hoF, hTF⟩, by simp [intOf]; omega⟩
        · skip
          go_simp
          go_wp2_with fail
          refine hKK.out _ _ trivial (fun _ => ?_)
          clear hKK KK
          (try simp only [List.getElem_toArray, List.getElem_cons_succ, List.getElem_cons_zero, Act.put, List.setIfInBounds_toArray, List.set_cons_zero, List.set_cons_succ])
          refine wpAnyH_ready (rs := [1]) (by kernel_rfl) (by simp) ?_; refine AllReadyH.cons rfl (fun KK hKK => ?_) AllReadyH.nil
          go_simp
          go_wp2_with fail
          refine hKK.out _ _ trivial (fun _ => ?_)
          clear hKK KK
          (try simp only [List.getElem_toArray, List.getElem_cons_succ, List.getElem_cons_zero, Act.put, List.setIfInBounds_toArray, List.set_cons_zero, List.set_cons_succ])
          refine wpAnyH_ready (rs := [5]) (by kernel_rfl) (by simp) ?_; refine AllReadyH.cons rfl (fun KK hKK => ?_) AllReadyH.nil
          refine step_app_ints rfl (.tmp 51) (.tmp 54) rfl w3.heap.size (v := .slice P t e') rfl hown15 rfl (news := natsV [x]) rfl hlit (by intro h; cases h) (by omega) hz15 ?_
          intro A16 c16 w16 ho16 hb16
          have hg16 := (hb16.block (w.heap.size + 1) (by omega)).trans hg15
          have hc16 := cell_of_row _ _ 11 _ _ (0, 0) hg16
          have hf16 := frozen_of_row _ _ 11 _ _ hg16
          simp only [List.getElem?_toArray, List.getElem?_cons_succ, List.getElem?_cons_zero] at hc16
          refine hKK.out _ _ trivial (fun _ => ?_)
          clear hKK KK
          (try simp only [List.getElem_toArray, List.getElem_cons_succ, List.getElem_cons_zero, Act.put, List.setIfInBounds_toArray, List.set_cons_zero, List.set_cons_succ])
          refine wpAnyH_take (i := 6) (v := ?_) rfl (by kernel_rfl) (by kernel_rfl) (by kernel_rfl) (fun _ _ _ h => h) (Or.inl ⟨by rfl, ?_⟩) (by assumption) ?_; rotate_left; (intro w hSw; (try dsimp only at hSw); go_simp; (first | done | (with_reducible rfl))); (try simp only [List.getElem_toArray, List.getElem_cons_succ, List.getElem_cons_zero, Act.put, List.setIfInBounds_toArray, List.set_cons_zero, List.set_cons_succ])
          refine wpAnyH_ready (rs := [7]) (by kernel_rfl) (by simp) ?_; refine AllReadyH.cons rfl (fun KK hKK => ?_) AllReadyH.nil
          go_simp
          go_wp2_with fail
          refine hKK.out _ _ trivial (fun _ => ?_)
          clear hKK KK
          (try simp only [List.getElem_toArray, List.getElem_cons_succ, List.getElem_cons_zero, Act.put, List.setIfInBounds_toArray, List.set_cons_zero, List.set_cons_succ])
          refine wpAnyH_done (by kernel_rfl) ?_ _
          go_wp2_with fail
          have hsetF := heap_setCell_same w16 (w.heap.size + 1) 11 _ _ (.slice A16 (t + 1) c16) hg16
          have hFF := (hS15.belowB hb16 (by omega)).other (o := 11) (v := .slice A16 (t + 1) c16) (by omega : pr < w.heap.size + 1)
          have hoF := ownsRow_setCell_below ho16 (show w.heap.size + 1 < w3.heap.size by omega) (.slice A16 (t + 1) c16) (a := ⟨w.heap.size + 1, 11, none⟩)
          have hTF := (hT15.below hb16).trans (Two.of2 (p := pr) (grown_set w16 (w.heap.size + 1) 11 (.slice A16 (t + 1) c16)))
          have hnv : natsV ms ++ natsV [x] = natsV (ms ++ [x]) := by simp [natsV]
          rw [hnv] at hoF
          exact ⟨⟨t + 1, ms ++ [x], s15, A16, c16, by omega, by go_num, by simp [hms], Lib.hid (HNS.out.snoc HNL.out), hFF, hsetF, hoF, hTF⟩, by simp [intOf]; omega⟩
    · obtain rfl : m13 = t := by omega
      have HFIN : Hid (∀ st', (4294967296 ≤ m8 ∨ mayC c1 (natsV ms) = false → st' = none) → (m8 < 4294967296 → mayC c1 (natsV ms) = true → st' = sl) → StepG readC st (c1, natsV ms) st') := by
        show ∀ st', _ → _ → _
        intro st' h1 h2
        have ec : c1 = mkC [m1, m2, m3, m4, m5, m6, m7] (m8 % 4294967296) [m9, m10] (str t12) := by rw [HC1.out, HSM.out, HKEY.out]; rfl
        rw [ec] at h1 h2 ⊢
        have h7 : StepG (numsR 1152921504606846976 7) st [m1, m2, m3, m4, m5, m6, m7] s7 := ((((((StepG.nil.snoc H1.out).snoc H2.out).snoc H3.out).snoc H4.out).snoc H5.out).snoc H6.out).snoc H7.out
        have h10 : StepG (numsR 1152921504606846976 2) s8 [m9, m10] s10 := (StepG.nil.snoc H9.out).snoc H10.out
        exact read_steps h7 H8.out h10 H11.out H12.out H13.out HNS.out h1 h2 rfl
      have HSU : Hid (0 ≤ c1.sum ∧ c1.sum < 4294967296) := by
        have h1 := HSM.out
        have h2 : c1.sum = (sm : Int) := by rw [HC1.out]
        show 0 ≤ c1.sum ∧ c1.sum < 4294967296
        omega
      clear H1 H2 H3 H4 H5 H6 H7 H8 H9 H10 H11 H12 H13 HNS HSM HC1 HKEY
      clear HT3 HT4 HT5 HT6 HT7 HT8 HT9 HT10 HT11 HT12 HT13 HT14 HT15 HT16 HT17 HT18 HT19 HT20
      have hnl : (natsV ms).length = m13 := by rw [length_natsV, hms]
      have HMC := Lib.hid (rmayCmd_calls (w := w13) c1 (n := m13) (d := e') (own_at hown) hnl.symm (by omega))
      generalize mayC c1 (natsV ms) = may at *
      have hlt13 := hT.size
      have hr13 := (hT.block w.heap.size (by omega) (by omega) (by omega)).trans HR3.out
      have e := cells_of hg
      obtain ⟨e0, e1, e2, e3, e4, e5, e6, e7, e8, e9, e10, e11⟩ := e
      have hfl := hS.flag
      obtain ⟨hfc, hff⟩ := hfl
      have HSB := Lib.hid hS.bad
      have HS := Lib.hid hS
      have HH3 := Lib.hid (And.intro hB3 hT)
      clear hB3 hT hS
      by_cases hbig : 4294967296 ≤ m8
      · have hbi : (4294967296 : Int) ≤ (m8 : Int) := by omega
        have hne : ¬ pr = w.heap.size := by omega
        have hne1 : ¬ pr = w.heap.size + 1 := by omega
        have hrB := (heap_setCell_other w13 ⟨pr, 1, none⟩ w.heap.size (.bool true) (by simp; omega)).trans hr13
        have HRB := Lib.hid hrB
        clear hrB HMC
        have z := cells_of (c := zeroC) (v := .slice none 0 0) hr13
        simp only [zeroC] at z
        obtain ⟨z0, z1, z2, z3, z4, z5, z6, z7, z8, z9, z10, z11⟩ := z
        have hfz := fun o => frozen_of_row w13 w.heap.size o _ _ hr13
        go_wp2_with fail
        have hrB := HRB.out
        have hTB := HH3.out.2.trans (Two.of1 (g := w.heap.size + 1) HSB.out.2)
        have hoB := ownsRow_setCell_below hown (show pr < w3.heap.size by omega) (.bool true) (a := ⟨pr, 1, none⟩)
        have hrow := putAll_full (vs := #[.int .i64 c1.id, .int .i64 c1.kind, .string c1.key, .int .i64 c1.blob, .int .i64 c1.other, .int .i64 c1.index, .int .i64 c1.node, .int .i64 c1.size, .int .u32 c1.sum, .int .i64 c1.k, .int .i64 c1.m, .slice P m13 e'].toList) hrB rfl
        have hgw := two_grown HH3.out.1 (hTB)
        have hbF := putAll_below (Nat.le_refl _) #[.int .i64 c1.id, .int .i64 c1.kind, .string c1.key, .int .i64 c1.blob, .int .i64 c1.other, .int .i64 c1.index, .int .i64 c1.node, .int .i64 c1.size, .int .u32 c1.sum, .int .i64 c1.k, .int .i64 c1.m, .slice P m13 e'].toList (w13.setCell ⟨pr, 1, none⟩ (.bool true)) 0 (Below.refl w.heap.size (w13.setCell ⟨pr, 1, none⟩ (.bool true)))
        have hoF := putAll_owns (g := w.heap.size) (by omega) #[.int .i64 c1.id, .int .i64 c1.kind, .string c1.key, .int .i64 c1.blob, .int .i64 c1.other, .int .i64 c1.index, .int .i64 c1.node, .int .i64 c1.size, .int .u32 c1.sum, .int .i64 c1.k, .int .i64 c1.m, .slice P m13 e'].toList (w13.setCell ⟨pr, 1, none⟩ (.bool true)) 0 (hoB)
        refine bodyPost_ret (results_cell_row rfl _ _ w.heap.size 27 #[.int .i64 c1.id, .int .i64 c1.kind, .string c1.key, .int .i64 c1.blob, .int .i64 c1.other, .int .i64 c1.index, .int .i64 c1.node, .int .i64 c1.size, .int .u32 c1.sum, .int .i64 c1.k, .int .i64 c1.m, .slice P m13 e'] (0, 0) _ rfl hrow Try.underlying27 rfl (by kernel_rfl)) rfl ?_
        exact ⟨c1, natsV ms, P, e', none, by rw [hnl]; rfl, RdS.belowB (HSB.out.1) hbF hpr, ⟨hbF.os.trans hgw.os, hbF.tape.trans hgw.tape, hbF.output.trans hgw.output, Nat.le_trans hgw.size hbF.size, fun k hk hne => (hbF.block k hk).trans (hgw.block k hk hne)⟩, by rw [hnl]; exact own_lower hoF (by omega), HFIN.out _ (fun _ => rfl) (fun h => absurd h (by omega)), by omega, HSU.out⟩

      · have hbi : ¬ ((4294967296 : Int) ≤ (m8 : Int)) := by omega
        go_wp2_with fail
        refine HMC.out.mono ?_
        rintro e w17 ⟨rfl, hb17⟩
        have hr17 := (hb17.block w.heap.size (by omega)).trans hr13
        have hg17 := (hb17.block (w.heap.size + 1) (by omega)).trans hg
        have hS17 := HS.out.belowB hb17 (by omega)
        clear e0 e1 e2 e3 e4 e5 e6 e7 e8 e9 e10 e11 HMC hfc hff HSB
        have e := cells_of hg17
        obtain ⟨e0, e1, e2, e3, e4, e5, e6, e7, e8, e9, e10, e11⟩ := e
        have z := cells_of (c := zeroC) (v := .slice none 0 0) hr17
        simp only [zeroC] at z
        obtain ⟨z0, z1, z2, z3, z4, z5, z6, z7, z8, z9, z10, z11⟩ := z
        have hfz := fun o => frozen_of_row w17 w.heap.size o _ _ hr17
        cases may with
        | false =>
          have hfl := hS17.flag
          obtain ⟨hfc, hff⟩ := hfl
          have HSB := Lib.hid hS17.bad
          have HS17 := Lib.hid hS17
          clear hS17
          have hne : ¬ pr = w.heap.size := by omega
          have hne1 : ¬ pr = w.heap.size + 1 := by omega
          have hrB := (heap_setCell_other w17 ⟨pr, 1, none⟩ w.heap.size (.bool true) (by simp; omega)).trans hr17
          have HRB := Lib.hid hrB
          clear hrB
          go_wp2_with fail
          have hrB := HRB.out
          have hTB := (HH3.out.2.below (hb17.mono hlt13)).trans (Two.of1 (g := w.heap.size + 1) HSB.out.2)
          have hoB := ownsRow_setCell_below (own_below hown hb17) (show pr < w3.heap.size by omega) (.bool true) (a := ⟨pr, 1, none⟩)
          have hrow := putAll_full (vs := #[.int .i64 c1.id, .int .i64 c1.kind, .string c1.key, .int .i64 c1.blob, .int .i64 c1.other, .int .i64 c1.index, .int .i64 c1.node, .int .i64 c1.size, .int .u32 c1.sum, .int .i64 c1.k, .int .i64 c1.m, .slice P m13 e'].toList) hrB rfl
          have hgw := two_grown HH3.out.1 (hTB)
          have hbF := putAll_below (Nat.le_refl _) #[.int .i64 c1.id, .int .i64 c1.kind, .string c1.key, .int .i64 c1.blob, .int .i64 c1.other, .int .i64 c1.index, .int .i64 c1.node, .int .i64 c1.size, .int .u32 c1.sum, .int .i64 c1.k, .int .i64 c1.m, .slice P m13 e'].toList (w17.setCell ⟨pr, 1, none⟩ (.bool true)) 0 (Below.refl w.heap.size (w17.setCell ⟨pr, 1, none⟩ (.bool true)))
          have hoF := putAll_owns (g := w.heap.size) (by omega) #[.int .i64 c1.id, .int .i64 c1.kind, .string c1.key, .int .i64 c1.blob, .int .i64 c1.other, .int .i64 c1.index, .int .i64 c1.node, .int .i64 c1.size, .int .u32 c1.sum, .int .i64 c1.k, .int .i64 c1.m, .slice P m13 e'].toList (w17.setCell ⟨pr, 1, none⟩ (.bool true)) 0 (hoB)
          refine bodyPost_ret (results_cell_row rfl _ _ w.heap.size 27 #[.int .i64 c1.id, .int .i64 c1.kind, .string c1.key, .int .i64 c1.blob, .int .i64 c1.other, .int .i64 c1.index, .int .i64 c1.node, .int .i64 c1.size, .int .u32 c1.sum, .int .i64 c1.k, .int .i64 c1.m, .slice P m13 e'] (0, 0) _ rfl hrow Try.underlying27 rfl (by kernel_rfl)) rfl ?_
          exact ⟨c1, natsV ms, P, e', none, by rw [hnl]; rfl, RdS.belowB (HSB.out.1) hbF hpr, ⟨hbF.os.trans hgw.os, hbF.tape.trans hgw.tape, hbF.output.trans hgw.output, Nat.le_trans hgw.size hbF.size, fun k hk hne => (hbF.block k hk).trans (hgw.block k hk hne)⟩, by rw [hnl]; exact own_lower hoF (by omega), HFIN.out _ (fun _ => rfl) (fun _ h => by cases h), by omega, HSU.out⟩

        | true =>
          go_wp2_with fail
          have hT17 := HH3.out.2.below (hb17.mono hlt13)
          have hrow := putAll_full (vs := #[.int .i64 c1.id, .int .i64 c1.kind, .string c1.key, .int .i64 c1.blob, .int .i64 c1.other, .int .i64 c1.index, .int .i64 c1.node, .int .i64 c1.size, .int .u32 c1.sum, .int .i64 c1.k, .int .i64 c1.m, .slice P m13 e'].toList) hr17 rfl
          have hgw := two_grown HH3.out.1 (hT17)
          have hbF := putAll_below (Nat.le_refl _) #[.int .i64 c1.id, .int .i64 c1.kind, .string c1.key, .int .i64 c1.blob, .int .i64 c1.other, .int .i64 c1.index, .int .i64 c1.node, .int .i64 c1.size, .int .u32 c1.sum, .int .i64 c1.k, .int .i64 c1.m, .slice P m13 e'].toList w17 0 (Below.refl w.heap.size w17)
          have hoF := putAll_owns (g := w.heap.size) (by omega) #[.int .i64 c1.id, .int .i64 c1.kind, .string c1.key, .int .i64 c1.blob, .int .i64 c1.other, .int .i64 c1.index, .int .i64 c1.node, .int .i64 c1.size, .int .u32 c1.sum, .int .i64 c1.k, .int .i64 c1.m, .slice P m13 e'].toList w17 0 (own_below hown hb17)
          refine bodyPost_ret (results_cell_row rfl _ _ w.heap.size 27 #[.int .i64 c1.id, .int .i64 c1.kind, .string c1.key, .int .i64 c1.blob, .int .i64 c1.other, .int .i64 c1.index, .int .i64 c1.node, .int .i64 c1.size, .int .u32 c1.sum, .int .i64 c1.k, .int .i64 c1.m, .slice P m13 e'] (0, 0) _ rfl hrow Try.underlying27 rfl (by kernel_rfl)) rfl ?_
          exact ⟨c1, natsV ms, P, e', sl, by rw [hnl]; rfl, RdS.belowB (hS17) hbF hpr, ⟨hbF.os.trans hgw.os, hbF.tape.trans hgw.tape, hbF.output.trans hgw.output, Nat.le_trans hgw.size hbF.size, fun k hk hne => (hbF.block k hk).trans (hgw.block k hk hne)⟩, by rw [hnl]; exact own_lower hoF (by omega), HFIN.out _ (fun h => by rcases h with h | h; exact absurd h (by omega); cases h) (fun _ _ => rfl), by omega, HSU.out⟩

end Go.Proofs.Ytfcacplecapgfaa
