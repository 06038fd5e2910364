/- Contract of the law FrameBack itself. -/
import Derived.Test.YtfcacplecapgfaaG12
import Derived.Test.YtfcacplecapgfaaG14
import Derived.Test.YtfcacplecapgfaaN1
namespace Go.Proofs.Ytfcacplecapgfaa
open Go.RowKit
set_option linter.unusedVariables false
set_option linter.unusedSimpArgs false

theorem len_wrap (l rest : List B8) (h1' : l.length ≤ 65535) : ∀ (h1 : 1 < (wrapF l ++ rest).length) (h2 : 2 < (wrapF l ++ rest).length), ((wrapF l ++ rest)[1]'h1).toNat * 256 + ((wrapF l ++ rest)[2]'h2).toNat = l.length := by
  intro h1 h2
  have hl : (wrapF l).length = l.length + 7 := length_wrapF l
  rw [List.getElem_append_left (by omega), List.getElem_append_left (by omega)]
  have e1 : (wrapF l)[1]'(by omega) = BitVec.ofNat 8 (l.length / 256) := by simp [wrapF, held, be16]
  have e2 : (wrapF l)[2]'(by omega) = BitVec.ofNat 8 l.length := by simp [wrapF, held, be16]
  rw [e1, e2, BitVec.toNat_ofNat, BitVec.toNat_ofNat]
  omega
set_option maxHeartbeats 16000000 in
set_option maxRecDepth 100000 in
theorem frameBack_calls {w : World} {A R : Option Addr} {n c nr cr : Nat} {l rs : List B8} {m : Mg} {M V X : Option Addr} {d e f : Nat} (hA : At w A (bys l)) (hn : n = l.length) (hnc : n ≤ c) (hnil : A = none → c = 0) (hmax : l.length ≤ 140737488351232)
    (hR : At w R (bys rs)) (hnr : nr = rs.length) (hrnil : R = none → cr = 0) (hrmax : rs.length ≤ 140737488351232) (h : MgAt w M d V X f m) :
    Calls Try.prog 6 #[.slice A n c, .slice R nr cr, .agg #[.int .i64 m.h.kind, .int .i64 m.h.frm, .int .i64 m.h.to, .int .i64 m.h.ballot, .int .i64 m.h.slot, .int .i64 m.h.blob, .int .i64 m.h.index, .int .i64 m.h.epoch, .int .i64 m.h.id, .bool m.h.ok, .int .i64 m.h.cmd.id, .int .i64 m.h.cmd.kind, .string m.h.cmd.key, .int .i64 m.h.cmd.blob, .int .i64 m.h.cmd.other, .int .i64 m.h.cmd.index, .int .i64 m.h.cmd.node, .int .i64 m.h.cmd.size, .int .u32 m.h.cmd.sum, .int .i64 m.h.cmd.k, .int .i64 m.h.cmd.m, .slice M m.cn.length d, .slice V m.vs.length e, .slice X m.bs.length f]] w (RetV w (.bool true)) := by
  subst hn hnr
  obtain ⟨mh, cn, vs, bs⟩ := m
  simp only
  obtain ⟨wb, hwb, hBb, hrb, hzb⟩ := any_box w #[.int .i64 mh.kind, .int .i64 mh.frm, .int .i64 mh.to, .int .i64 mh.ballot, .int .i64 mh.slot, .int .i64 mh.blob, .int .i64 mh.index, .int .i64 mh.epoch, .int .i64 mh.id, .bool mh.ok, .int .i64 mh.cmd.id, .int .i64 mh.cmd.kind, .string mh.cmd.key, .int .i64 mh.cmd.blob, .int .i64 mh.cmd.other, .int .i64 mh.cmd.index, .int .i64 mh.cmd.node, .int .i64 mh.cmd.size, .int .u32 mh.cmd.sum, .int .i64 mh.cmd.k, .int .i64 mh.cmd.m, .slice M cn.length d, .slice V vs.length e, .slice X bs.length f] 40
  have HW := Lib.hid hwb
  have HK := Lib.hid (h.below hBb)
  have HX := Lib.hid hrb
  have hR1 := hR.below hBb
  have hA1 : At wb A (bys (l.take 5000)) := by rw [← bys_take]; exact (hA.below hBb).take 5000
  have e1 := Lib.hid (by rw [List.length_take] : (l.take 5000).length = min 5000 l.length)
  generalize l.take 5000 = L at *
  have hci : (l.length : Int) ≤ c := by omega
  have hc2 : 5000 < (l.length : Int) → (5000 : Int) ≤ c := by omega
  clear hA hR hwb hrb h
  go_enter Try.func6, Try.ntmps6
  go_wp2_with fail
  all_goals
    have hwb := HW.out
    rw [← hwb]
    clear hwb HW
    refine (clone_calls (l := L) hA1 (by have := e1.out; omega) hnil (by have := e1.out; omega)).mono ?_
    rintro e1' w1 ⟨A1, c1, rfl, ho1, hb1⟩
    clear hc2 hci hnc
    have hbl := below1' w1 (.cells #[.int .u8 1] 5)
    have hatL : At (w1.alloc (.cells #[.int .u8 1] 5)) (some ⟨w1.heap.size, 0, none⟩) (bys [1#8]) := at_new w1 #[.int .u8 1] 5 (0, 0)
    have ho1' := own_below ho1 hbl
    have hz1 := hb1.size
    have hz1' : wb.heap.size ≤ (w1.alloc (.cells #[.int .u8 1] 5)).heap.size := by simp; omega
    go_wp2_with (refine app_bytes rfl (.tmp 23) (.tmp 24) rfl wb.heap.size rfl ho1' rfl (news := [1#8]) rfl hatL (by intro h; cases h) (by have := e1.out; omega) hz1' ?_; intro A2 c2 w2 ho2 hb2 hg2 hc2)
    have hBb2 : Below wb.heap.size wb w2 := (hb1.trans (hbl.mono hz1)).trans hb2
    clear hg2 hb2 hbl hatL ho1 ho1' hb1
    obtain ⟨N, hN⟩ : ∃ N, N = L.length + 1 := ⟨_, rfl⟩
    (first | rw [show (5000 + 1 : Nat) = N by have := e1.out; omega] at ho2 | rw [show (l.length + 1 : Nat) = N by have := e1.out; omega] at ho2)
    (first | rw [show (5001 : Nat) = N by have := e1.out; omega] | rw [show (l.length + 1 : Nat) = N by have := e1.out; omega])
    have hN2 : (L ++ [1#8]).length = N := by rw [hN]; simp
    have hN3 : N ≤ 5001 := by have := e1.out; omega
    have hN4 : 1 ≤ N := by omega
    clear hN hA1
    generalize L ++ [1#8] = LB at *
    subst hN2
    refine (wrap_ok (l := LB) (own_at ho2) rfl (own_nil ho2) hN4 (by omega)).mono ?_
    rintro e2 w3 ⟨A3, c3, rfl, ho3, hb3⟩
    have HLT := Lib.hid (show ∀ g, (Value.slice A2 LB.length c2).ownBlock = some g → g < w2.heap.size from fun g hg => (ho2.lt g hg).2)
    have hz2 := hb3.size
    have ho23 := own_below ho2 hb3
    have hBb3 := hBb2.trans (hb3.mono hBb2.size)
    have hz3 := hBb3.size
    have hz23 := hBb2.size
    clear hb3 ho2 hBb2 hc2 e1 hz1 hz1'
    have HU := Lib.hid (unwrap_wrap LB rs hN4 (by omega))
    have hFl : (wrapF LB).length = LB.length + 7 := length_wrapF LB
    have HLW := Lib.hid (len_wrap LB rs (by omega))
    rw [← hFl] at ho3 ⊢
    have hF5 : (wrapF LB).length ≤ 5008 := by omega
    have HFL := Lib.hid hFl
    have hF0 : 0 < (wrapF LB).length := by omega
    clear hFl
    generalize wrapF LB = F at *
    go_wp2_with fail
    refine (clone_calls (own_at ho3) rfl (own_nil ho3) (by omega)).mono ?_
    rintro e2 w4 ⟨A4, c4, rfl, ho4, hb4⟩
    have ho24 := own_below ho23 hb4
    have hBb4 := hBb3.trans (hb4.mono hz3)
    have hR4 := hR1.below hBb4
    have hz4 := hb4.size
    clear ho3 ho23 hb4 hBb3
    go_wp2_with (refine app_near rfl (.tmp 33) (.tmp 34) rfl w3.heap.size (v := .slice A4 F.length c4) rfl ho4 rfl (news := rs) rfl hR4 hrnil hF0 (by omega) (by omega) hz4 ?_; intro A5 c5 w5 ho5 hb5 hg5 hc5)
    have ho25 : w5.ownsRow wb.heap.size 5 1 (.slice A2 LB.length c2) LB.length (bys LB) := by
      refine ho24.kept hg5.1 ?_
      rcases own_addr ho24 with ⟨h1, h2⟩ | ⟨g, h1, h2, h3, h4⟩
      · exact .inl h2
      · exact .inr (by
          rw [h2]
          intro hh
          have := (ho4.lt g hh.symm).1
          have h5 := HLT.out g h2
          omega)
    have hb5' := hb5.mono hz3
    have hBb5 := hBb4.trans hb5'
    have hlF : F.length + rs.length = (F ++ rs).length := by simp
    have HUN := unwrap_near (own_at ho5) hlF hc5 (own_nil ho5) (by rw [← hlF]; omega) (fun h1 h2 => by rw [HLW.out h1 h2, ← hlF, HFL.out]; omega)
    rw [HU.out] at HUN
    have HUN := Lib.hid HUN
    clear hg5 hb5 ho5 ho24 hBb4 hb5' hlF HLW
    refine HUN.out.mono ?_
    rintro e2 w6 ⟨A6, c6, A7, c7, rfl, ho6, ho7, hb6⟩
    simp only at ho6 ho7 ⊢
    have hz5 := hBb5.size
    have hBb6 := hBb5.trans (hb6.mono hz5)
    have HE1 := Lib.hid (equal_calls (own_at ho6) (own_at (own_below ho25 hb6)) (c := c6) (d := c2) rfl rfl)
    have HE2 := Lib.hid (equal_calls (own_at ho7) (hR1.below hBb6) (c := c7) (d := cr) rfl rfl)
    clear HUN HU ho6 ho7 ho25 hb6 hBb5 hR1 hR4
    go_wp2_with fail
    refine HE1.out.mono ?_
    rintro e2 w7 ⟨he, rfl⟩
    replace he : e2 = .returned (.bool true) := he.trans (by simp)
    subst he
    go_wp2_with fail
    refine HE2.out.mono ?_
    rintro e2 w8 ⟨he, rfl⟩
    replace he : e2 = .returned (.bool true) := he.trans (by simp)
    subst he
    clear HE1 HE2
    have hwlt : w.heap.size < wb.heap.size := by omega
    have HK6 := Lib.hid (HK.out.below hBb6)
    have hat6 : At w6 (some ⟨w.heap.size, 0, none⟩) [.int .i64 mh.kind, .int .i64 mh.frm, .int .i64 mh.to, .int .i64 mh.ballot, .int .i64 mh.slot, .int .i64 mh.blob, .int .i64 mh.index, .int .i64 mh.epoch, .int .i64 mh.id, .bool mh.ok, .int .i64 mh.cmd.id, .int .i64 mh.cmd.kind, .string mh.cmd.key, .int .i64 mh.cmd.blob, .int .i64 mh.cmd.other, .int .i64 mh.cmd.index, .int .i64 mh.cmd.node, .int .i64 mh.cmd.size, .int .u32 mh.cmd.sum, .int .i64 mh.cmd.k, .int .i64 mh.cmd.m, .slice M cn.length d, .slice V vs.length e, .slice X bs.length f] := at_cells ((hBb6.block w.heap.size hwlt).trans HX.out)
    have hz6 := hBb6.size
    cases hmay : mayM ⟨mh, cn, vs, bs⟩ with
    | false =>
      have HF := Lib.hid (fmsg_bad (e := e) HK6.out hmay)
      have HRM := Lib.hid hmay
      simp only at HF
      clear hmay
      go_wp2_with (refine wpList_load_at rfl 40 (.tmp 5) rfl rfl hat6 Try.underlying40 rfl (by kernel_rfl) ?_)
      refine HF.out.mono ?_
      rintro e2 w9 ⟨rfl, hb9⟩
      have hBb9 := hBb6.trans (hb9.mono hz6)
      have hat9 : At w9 (some ⟨w.heap.size, 0, none⟩) [.int .i64 mh.kind, .int .i64 mh.frm, .int .i64 mh.to, .int .i64 mh.ballot, .int .i64 mh.slot, .int .i64 mh.blob, .int .i64 mh.index, .int .i64 mh.epoch, .int .i64 mh.id, .bool mh.ok, .int .i64 mh.cmd.id, .int .i64 mh.cmd.kind, .string mh.cmd.key, .int .i64 mh.cmd.blob, .int .i64 mh.cmd.other, .int .i64 mh.cmd.index, .int .i64 mh.cmd.node, .int .i64 mh.cmd.size, .int .u32 mh.cmd.sum, .int .i64 mh.cmd.k, .int .i64 mh.cmd.m, .slice M cn.length d, .slice V vs.length e, .slice X bs.length f] := at_cells ((hBb9.block w.heap.size hwlt).trans HX.out)
      have HMM := Lib.hid (rmayMsg_calls (e := e) (HK.out.below hBb9))
      rw [HRM.out] at HMM
      simp only at HMM
      clear HF hat6 hb9
      go_wp2_with (refine wpList_load_at rfl 40 (.tmp 5) rfl rfl hat9 Try.underlying40 rfl (by kernel_rfl) ?_)
      refine HMM.out.mono ?_
      rintro e2 w10 ⟨rfl, hb10⟩
      go_wp2_with fail
      go_ret
      exact ⟨ret_bool rfl, hBb.trans ((hBb9.trans (hb10.mono hBb9.size)).mono (by omega))⟩
    | true =>
      have HOK := Lib.hid (mayM_ok.1 hmay)
      have HF := Lib.hid (fmsg_good (e := e) HK6.out hmay)
      have hsv : ∀ v, v ∈ vs → SumOk v.2.2.1 := by
        obtain ⟨us, hv1, hv2⟩ := HK6.out.vts
        exact fun v hv => Vts.sum _ _ hv2 v hv
      have HONE := Lib.hid (oneM_msgB HOK.out HK6.out.sum hsv)
      have HRM := Lib.hid hmay
      simp only at HF
      clear hmay hsv
      generalize msgB ⟨mh, cn, vs, bs⟩ = z at *
      go_wp2_with (refine wpList_load_at rfl 40 (.tmp 5) rfl rfl hat6 Try.underlying40 rfl (by kernel_rfl) ?_)
      refine HF.out.mono ?_
      rintro e2 w9 ⟨A9, c9, rfl, ho9, hb9⟩
      have hBb9 := hBb6.trans (hb9.mono hz6)
      have hat9 : At w9 (some ⟨w.heap.size, 0, none⟩) [.int .i64 mh.kind, .int .i64 mh.frm, .int .i64 mh.to, .int .i64 mh.ballot, .int .i64 mh.slot, .int .i64 mh.blob, .int .i64 mh.index, .int .i64 mh.epoch, .int .i64 mh.id, .bool mh.ok, .int .i64 mh.cmd.id, .int .i64 mh.cmd.kind, .string mh.cmd.key, .int .i64 mh.cmd.blob, .int .i64 mh.cmd.other, .int .i64 mh.cmd.index, .int .i64 mh.cmd.node, .int .i64 mh.cmd.size, .int .u32 mh.cmd.sum, .int .i64 mh.cmd.k, .int .i64 mh.cmd.m, .slice M cn.length d, .slice V vs.length e, .slice X bs.length f] := at_cells ((hBb9.block w.heap.size hwlt).trans HX.out)
      have HMM := Lib.hid (rmayMsg_calls (e := e) (HK.out.below hBb9))
      rw [HRM.out] at HMM
      simp only at HMM
      have hz9 := hBb9.size
      clear HF hat6 hb9 hBb6
      go_wp2_with (refine wpList_load_at rfl 40 (.tmp 5) rfl rfl hat9 Try.underlying40 rfl (by kernel_rfl) ?_)
      refine HMM.out.mono ?_
      rintro e2 w10 ⟨rfl, hb10⟩
      have hBb10 := hBb9.trans (hb10.mono hz9)
      have HRD := readMsg_calls (own_slb (own_below ho9 hb10))
      rw [HONE.out] at HRD
      have HRD := Lib.hid HRD
      have hz10 := hBb10.size
      clear HMM hat9 hb10 hBb9 ho9
      go_wp2_with fail
      refine HRD.out.mono ?_
      rintro e2 w11 ⟨P9, e9, V9, ev9, X9, f9, rfl, hb11, hm11⟩
      have HM11 := Lib.hid (show MgOwn w11 w10.heap.size P9 e9 V9 ev9 X9 f9 ⟨mh, cn, vs, bs⟩ from hm11)
      have hBb11 := hBb10.trans (hb11.mono hz10)
      have hz11 := hBb11.size
      have hgz : (w11.alloc (.cells #[.int .i64 0, .int .i64 0, .int .i64 0, .int .i64 0, .int .i64 0, .int .i64 0, .int .i64 0, .int .i64 0, .int .i64 0, .bool false, .int .i64 0, .int .i64 0, .string ⟨#[]⟩, .int .i64 0, .int .i64 0, .int .i64 0, .int .i64 0, .int .i64 0, .int .u32 0, .int .i64 0, .int .i64 0, .slice none 0 0, .slice none 0 0, .slice none 0 0] 40)).heap[w11.heap.size]? = some (.cells #[.int .i64 0, .int .i64 0, .int .i64 0, .int .i64 0, .int .i64 0, .int .i64 0, .int .i64 0, .int .i64 0, .int .i64 0, .bool false, .int .i64 0, .int .i64 0, .string ⟨#[]⟩, .int .i64 0, .int .i64 0, .int .i64 0, .int .i64 0, .int .i64 0, .int .u32 0, .int .i64 0, .int .i64 0, .slice none 0 0, .slice none 0 0, .slice none 0 0] 40 (0, 0)) := heap_alloc_new w11 _
      have hbz := below1' w11 (.cells #[.int .i64 0, .int .i64 0, .int .i64 0, .int .i64 0, .int .i64 0, .int .i64 0, .int .i64 0, .int .i64 0, .int .i64 0, .bool false, .int .i64 0, .int .i64 0, .string ⟨#[]⟩, .int .i64 0, .int .i64 0, .int .i64 0, .int .i64 0, .int .i64 0, .int .u32 0, .int .i64 0, .int .i64 0, .slice none 0 0, .slice none 0 0, .slice none 0 0] 40)
      clear HRD hb11 hBb10 hm11
      go_wp2_with (first
        | (refine wpList_put_at rfl 40 (.tmp 13) (.tmp 76) rfl w11.heap.size 0 [.int .i64 mh.kind, .int .i64 mh.frm, .int .i64 mh.to, .int .i64 mh.ballot, .int .i64 mh.slot, .int .i64 mh.blob, .int .i64 mh.index, .int .i64 mh.epoch, .int .i64 mh.id, .bool mh.ok, .int .i64 mh.cmd.id, .int .i64 mh.cmd.kind, .string mh.cmd.key, .int .i64 mh.cmd.blob, .int .i64 mh.cmd.other, .int .i64 mh.cmd.index, .int .i64 mh.cmd.node, .int .i64 mh.cmd.size, .int .u32 mh.cmd.sum, .int .i64 mh.cmd.k, .int .i64 mh.cmd.m, .slice P9 cn.length e9, .slice V9 vs.length ev9, .slice X9 bs.length f9] rfl rfl 40 _ #[.int .i64 mh.kind, .int .i64 mh.frm, .int .i64 mh.to, .int .i64 mh.ballot, .int .i64 mh.slot, .int .i64 mh.blob, .int .i64 mh.index, .int .i64 mh.epoch, .int .i64 mh.id, .bool mh.ok, .int .i64 mh.cmd.id, .int .i64 mh.cmd.kind, .string mh.cmd.key, .int .i64 mh.cmd.blob, .int .i64 mh.cmd.other, .int .i64 mh.cmd.index, .int .i64 mh.cmd.node, .int .i64 mh.cmd.size, .int .u32 mh.cmd.sum, .int .i64 mh.cmd.k, .int .i64 mh.cmd.m, .slice P9 cn.length e9, .slice V9 vs.length ev9, .slice X9 bs.length f9] hgz (by kernel_rfl) (by show (24 : Nat) ≤ 24; decide) (msg_one mh P9 V9 X9 cn.length e9 vs.length ev9 bs.length f9) rfl ?_; intro w12 hgr12 hg12
           have hb12 : Below w11.heap.size w11 w12 := hbz.trans ⟨hgr12.os, hgr12.tape, hgr12.output, hgr12.size, fun k hk => hgr12.block k (by have := hbz.size; omega) (by intro he; injection he with he; omega)⟩
           have hz12 : w11.heap.size < w12.heap.size := by have := hgr12.size; simp at this; omega
           have hBb12 := hBb11.trans (hb12.mono hz11)
           have hatC : At w12 (some ⟨w.heap.size, 10, none⟩) [.int .i64 mh.cmd.id, .int .i64 mh.cmd.kind, .string mh.cmd.key, .int .i64 mh.cmd.blob, .int .i64 mh.cmd.other, .int .i64 mh.cmd.index, .int .i64 mh.cmd.node, .int .i64 mh.cmd.size, .int .u32 mh.cmd.sum, .int .i64 mh.cmd.k, .int .i64 mh.cmd.m, .slice M cn.length d] := at_part (n := 12) ((hBb12.block w.heap.size hwlt).trans HX.out) rfl)
        | (refine wpList_load_at rfl 27 (.tmp 79) rfl rfl hatC Try.underlying27 rfl (by kernel_rfl) ?_))
      have HM12 := Lib.hid (HM11.out.map (fun T sz v n xs h => own_below h hb12))
      have HG12 := Lib.hid hg12
      have hz12b := hBb12.size
      have hokc := mayC_ok.1 HOK.out.cmd
      have HC2 := Lib.hid (oneC_cmdB hokc HK6.out.sum)
      have HCW := Lib.hid (fcmd_own (w := w12) (n := cn.length) (d := d) mh.cmd (HK.out.below hBb12).cn rfl (by have := hokc.len; simp only at this; omega) HOK.out.cmd HK6.out.sum)
      simp only at HC2 HCW
      clear hgz hbz hgr12 hg12 hb12 hatC HM11 hBb11 hokc
      generalize cmdB mh.cmd cn = zc at *
      refine HCW.out.mono ?_
      rintro e2 w13 ⟨A13, c13, rfl, ho13, hb13⟩
      have hBb13 := hBb12.trans (hb13.mono hz12b)
      have hz13 := hBb13.size
      have hz13b := hb13.size
      have HM13 := Lib.hid (HM12.out.map (fun T sz v n xs h => own_below h hb13))
      have HG13 := Lib.hid ((hb13.block w11.heap.size hz12).trans HG12.out)
      have HRC := readCmd_calls (own_slb ho13)
      rw [HC2.out] at HRC
      have HRC := Lib.hid HRC
      clear HCW hb13 hBb12 HM12 HG12 ho13
      go_wp2_with fail
      refine HRC.out.mono ?_
      rintro e2 w14 ⟨P14, e14, rfl, hb14, ho14, _⟩
      have hBb14 := hBb13.trans (hb14.mono hz13)
      have hz14 := hBb14.size
      have hz14b := hb14.size
      have ho14' : w14.ownsRow w13.heap.size 3 1 (.slice P14 cn.length e14) cn.length (ints cn) := ho14
      have hb15 := below1' w14 (.cells #[.int .i64 mh.cmd.id, .int .i64 mh.cmd.kind, .string mh.cmd.key, .int .i64 mh.cmd.blob, .int .i64 mh.cmd.other, .int .i64 mh.cmd.index, .int .i64 mh.cmd.node, .int .i64 mh.cmd.size, .int .u32 mh.cmd.sum, .int .i64 mh.cmd.k, .int .i64 mh.cmd.m, .slice P14 cn.length e14] 27)
      have hg15 : (w14.alloc (.cells #[.int .i64 mh.cmd.id, .int .i64 mh.cmd.kind, .string mh.cmd.key, .int .i64 mh.cmd.blob, .int .i64 mh.cmd.other, .int .i64 mh.cmd.index, .int .i64 mh.cmd.node, .int .i64 mh.cmd.size, .int .u32 mh.cmd.sum, .int .i64 mh.cmd.k, .int .i64 mh.cmd.m, .slice P14 cn.length e14] 27)).heap[w14.heap.size]? = some (.cells #[.int .i64 mh.cmd.id, .int .i64 mh.cmd.kind, .string mh.cmd.key, .int .i64 mh.cmd.blob, .int .i64 mh.cmd.other, .int .i64 mh.cmd.index, .int .i64 mh.cmd.node, .int .i64 mh.cmd.size, .int .u32 mh.cmd.sum, .int .i64 mh.cmd.k, .int .i64 mh.cmd.m, .slice P14 cn.length e14] 27 (0, 0)) := heap_alloc_new w14 _
      have hBb15 := hBb14.trans (hb15.mono hz14)
      have hb1315 := hb14.trans (hb15.mono hz14b)
      have HM15 := Lib.hid (HM13.out.map (fun T sz v n xs h => own_below h hb1315))
      have hatm : At (w14.alloc (.cells #[.int .i64 mh.cmd.id, .int .i64 mh.cmd.kind, .string mh.cmd.key, .int .i64 mh.cmd.blob, .int .i64 mh.cmd.other, .int .i64 mh.cmd.index, .int .i64 mh.cmd.node, .int .i64 mh.cmd.size, .int .u32 mh.cmd.sum, .int .i64 mh.cmd.k, .int .i64 mh.cmd.m, .slice P14 cn.length e14] 27)) (some ⟨w.heap.size, 0, none⟩) [.int .i64 mh.kind, .int .i64 mh.frm, .int .i64 mh.to, .int .i64 mh.ballot, .int .i64 mh.slot, .int .i64 mh.blob, .int .i64 mh.index, .int .i64 mh.epoch, .int .i64 mh.id, .bool mh.ok, .int .i64 mh.cmd.id, .int .i64 mh.cmd.kind, .string mh.cmd.key, .int .i64 mh.cmd.blob, .int .i64 mh.cmd.other, .int .i64 mh.cmd.index, .int .i64 mh.cmd.node, .int .i64 mh.cmd.size, .int .u32 mh.cmd.sum, .int .i64 mh.cmd.k, .int .i64 mh.cmd.m, .slice M cn.length d, .slice V vs.length e, .slice X bs.length f] := at_cells ((hBb15.block w.heap.size hwlt).trans HX.out)
      have hatn : At (w14.alloc (.cells #[.int .i64 mh.cmd.id, .int .i64 mh.cmd.kind, .string mh.cmd.key, .int .i64 mh.cmd.blob, .int .i64 mh.cmd.other, .int .i64 mh.cmd.index, .int .i64 mh.cmd.node, .int .i64 mh.cmd.size, .int .u32 mh.cmd.sum, .int .i64 mh.cmd.k, .int .i64 mh.cmd.m, .slice P14 cn.length e14] 27)) (some ⟨w11.heap.size, 0, none⟩) [.int .i64 mh.kind, .int .i64 mh.frm, .int .i64 mh.to, .int .i64 mh.ballot, .int .i64 mh.slot, .int .i64 mh.blob, .int .i64 mh.index, .int .i64 mh.epoch, .int .i64 mh.id, .bool mh.ok, .int .i64 mh.cmd.id, .int .i64 mh.cmd.kind, .string mh.cmd.key, .int .i64 mh.cmd.blob, .int .i64 mh.cmd.other, .int .i64 mh.cmd.index, .int .i64 mh.cmd.node, .int .i64 mh.cmd.size, .int .u32 mh.cmd.sum, .int .i64 mh.cmd.k, .int .i64 mh.cmd.m, .slice P9 cn.length e9, .slice V9 vs.length ev9, .slice X9 bs.length f9] := at_cells ((hb1315.block w11.heap.size (by omega)).trans HG13.out)
      have HS := Lib.hid (smsg_calls (e := e) (e' := ev9) (HK.out.below hBb15) HM15.out.at)
      have HO15 := Lib.hid (own_below ho14' hb15)
      have HG15 := Lib.hid hg15
      simp only at HS
      unfold cmv
      clear HRC hb14 ho14 ho14' hBb13 HM13 HG13
      go_wp2_with (first
        | (refine load_atG (by rfl) 40 (.tmp 5) rfl rfl hatm Try.underlying40 rfl (by kernel_rfl) ?_)
        | (refine load_atG (by rfl) 40 (.tmp 13) rfl rfl hatn Try.underlying40 rfl (by kernel_rfl) ?_))
      refine HS.out.mono ?_
      rintro e2 w16 ⟨rfl, hb16⟩
      have hBb16 := hBb15.trans (hb16.mono hBb15.size)
      have hatd : At w16 (some ⟨w14.heap.size, 0, none⟩) [.int .i64 mh.cmd.id, .int .i64 mh.cmd.kind, .string mh.cmd.key, .int .i64 mh.cmd.blob, .int .i64 mh.cmd.other, .int .i64 mh.cmd.index, .int .i64 mh.cmd.node, .int .i64 mh.cmd.size, .int .u32 mh.cmd.sum, .int .i64 mh.cmd.k, .int .i64 mh.cmd.m, .slice P14 cn.length e14] := at_cells ((hb16.block w14.heap.size (by simp)).trans HG15.out)
      have hatC : At w16 (some ⟨w.heap.size, 10, none⟩) [.int .i64 mh.cmd.id, .int .i64 mh.cmd.kind, .string mh.cmd.key, .int .i64 mh.cmd.blob, .int .i64 mh.cmd.other, .int .i64 mh.cmd.index, .int .i64 mh.cmd.node, .int .i64 mh.cmd.size, .int .u32 mh.cmd.sum, .int .i64 mh.cmd.k, .int .i64 mh.cmd.m, .slice M cn.length d] := at_part (n := 12) ((hBb16.block w.heap.size hwlt).trans HX.out) rfl
      have HQ := Lib.hid (psame_calls (w := w16) (c := mh.cmd) (l := cn) (a := e14) (b := d) (own_at (own_below HO15.out hb16)) (HK.out.below hBb16).cn rfl (by have := HK6.out.cmax; simp only at this; omega))
      clear HS hatm hatn hb16 hBb15 HM15 HO15 HG15 hb15 hg15 hb1315 hBb14
      go_wp2_with (first
        | (refine load_atG (by rfl) 27 (.tmp 16) rfl rfl hatd Try.underlying27 rfl (by kernel_rfl) ?_)
        | (refine load_atG (by rfl) 27 (.tmp 110) rfl rfl hatC Try.underlying27 rfl (by kernel_rfl) ?_))
      refine HQ.out.mono ?_
      rintro e2 w17 ⟨rfl, hb17⟩
      go_wp2_with fail
      go_ret
      exact ⟨ret_bool rfl, hBb.trans ((hBb16.trans (hb17.mono hBb16.size)).mono (by omega))⟩
end Go.Proofs.Ytfcacplecapgfaa
