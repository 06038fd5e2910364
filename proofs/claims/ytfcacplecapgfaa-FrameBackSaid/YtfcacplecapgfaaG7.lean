/- Contract: frame.Msg of a message that may be. -/
import Derived.Test.YtfcacplecapgfaaG6
import Derived.Test.YtfcacplecapgfaaF4
namespace Go.Proofs.Ytfcacplecapgfaa
open Go.RowKit
set_option linter.unusedVariables false
set_option linter.unusedSimpArgs false

set_option maxHeartbeats 8000000 in
set_option maxRecDepth 100000 in
theorem fmsg_good {w : World} {m : Mg} {A V B : Option Addr} {d e f : Nat} (h : MgAt w A d V B f m) (hok : mayM m = true) :
    Calls Try.prog 16 #[.agg #[.int .i64 m.h.kind, .int .i64 m.h.frm, .int .i64 m.h.to, .int .i64 m.h.ballot, .int .i64 m.h.slot, .int .i64 m.h.blob, .int .i64 m.h.index, .int .i64 m.h.epoch, .int .i64 m.h.id, .bool m.h.ok, .int .i64 m.h.cmd.id, .int .i64 m.h.cmd.kind, .string m.h.cmd.key, .int .i64 m.h.cmd.blob, .int .i64 m.h.cmd.other, .int .i64 m.h.cmd.index, .int .i64 m.h.cmd.node, .int .i64 m.h.cmd.size, .int .u32 m.h.cmd.sum, .int .i64 m.h.cmd.k, .int .i64 m.h.cmd.m, .slice A m.cn.length d, .slice V m.vs.length e, .slice B m.bs.length f]] w (RetBo w (msgB m) 0) := by
  have HOK := Lib.hid (mayM_ok.1 hok)
  have hmn : natsV (msgN m) = [m.h.kind, m.h.frm, m.h.to, m.h.ballot, m.h.slot, m.h.blob, m.h.index, m.h.epoch, m.h.id] := msgN_ints HOK.out
  have hml := msgN_le HOK.out
  have HX0 : Hid (msgB m = numsB (msgN m) ++ ([okB m.h.ok] ++ cmdB m.h.cmd m.cn ++ numsB [m.vs.length] ++ votesB m.vs ++ numsB [m.bs.length] ++ m.bs)) := by show _ = _; unfold msgB; simp only [List.append_assoc]
  generalize msgB m = res at *
  generalize msgN m = mN at *
  obtain ⟨mh, cn, vs, bs⟩ := m
  simp only at hmn HX0 ⊢
  obtain ⟨wb, hwb, hBb, hrb, hzb⟩ := any_box w #[.int .i64 mh.kind, .int .i64 mh.frm, .int .i64 mh.to, .int .i64 mh.ballot, .int .i64 mh.slot, .int .i64 mh.blob, .int .i64 mh.index, .int .i64 mh.epoch, .int .i64 mh.id, .bool mh.ok, .int .i64 mh.cmd.id, .int .i64 mh.cmd.kind, .string mh.cmd.key, .int .i64 mh.cmd.blob, .int .i64 mh.cmd.other, .int .i64 mh.cmd.index, .int .i64 mh.cmd.node, .int .i64 mh.cmd.size, .int .u32 mh.cmd.sum, .int .i64 mh.cmd.k, .int .i64 mh.cmd.m, .slice A cn.length d, .slice V vs.length e, .slice B bs.length f] 40
  have HW := Lib.hid hwb
  have he := mcells_of hrb
  obtain ⟨e0, e1, e2, e3, e4, e5, e6, e7, e8, e9, e10, e11, e12, e13, e14, e15, e16, e17, e18, e19, e20, e21, e22, e23⟩ := he
  have HK := Lib.hid (h.below hBb)
  have HKw := Lib.hid h
  have HMC := Lib.hid (mayMsg_calls (e := e) HK.out)
  rw [hok] at HMC
  simp only at HMC
  have hmax1 : cn.length * 8 ≤ 140737488351232 := h.cmax
  have hmax2 : vs.length ≤ 140737488351232 := h.vmax
  rw [hwb] at e0 e1 e2 e3 e4 e5 e6 e7 e8 e9 e10 e11 e12 e13 e14 e15 e16 e17 e18 e19 e20 e21 e22 e23
  have HX := Lib.hid hrb
  have HMN := Lib.hid hmn
  have HML := Lib.hid hml
  clear hwb hrb h hok hmn hml
  have hatM : At (w.alloc (.cells #[.int .i64 mh.kind, .int .i64 mh.frm, .int .i64 mh.to, .int .i64 mh.ballot, .int .i64 mh.slot, .int .i64 mh.blob, .int .i64 mh.index, .int .i64 mh.epoch, .int .i64 mh.id, .bool mh.ok, .int .i64 mh.cmd.id, .int .i64 mh.cmd.kind, .string mh.cmd.key, .int .i64 mh.cmd.blob, .int .i64 mh.cmd.other, .int .i64 mh.cmd.index, .int .i64 mh.cmd.node, .int .i64 mh.cmd.size, .int .u32 mh.cmd.sum, .int .i64 mh.cmd.k, .int .i64 mh.cmd.m, .slice A cn.length d, .slice V vs.length e, .slice B bs.length f] 40)) (some ⟨w.heap.size, 0, none⟩) [.int .i64 mh.kind, .int .i64 mh.frm, .int .i64 mh.to, .int .i64 mh.ballot, .int .i64 mh.slot, .int .i64 mh.blob, .int .i64 mh.index, .int .i64 mh.epoch, .int .i64 mh.id, .bool mh.ok, .int .i64 mh.cmd.id, .int .i64 mh.cmd.kind, .string mh.cmd.key, .int .i64 mh.cmd.blob, .int .i64 mh.cmd.other, .int .i64 mh.cmd.index, .int .i64 mh.cmd.node, .int .i64 mh.cmd.size, .int .u32 mh.cmd.sum, .int .i64 mh.cmd.k, .int .i64 mh.cmd.m, .slice A cn.length d, .slice V vs.length e, .slice B bs.length f] := at_alloc w #[.int .i64 mh.kind, .int .i64 mh.frm, .int .i64 mh.to, .int .i64 mh.ballot, .int .i64 mh.slot, .int .i64 mh.blob, .int .i64 mh.index, .int .i64 mh.epoch, .int .i64 mh.id, .bool mh.ok, .int .i64 mh.cmd.id, .int .i64 mh.cmd.kind, .string mh.cmd.key, .int .i64 mh.cmd.blob, .int .i64 mh.cmd.other, .int .i64 mh.cmd.index, .int .i64 mh.cmd.node, .int .i64 mh.cmd.size, .int .u32 mh.cmd.sum, .int .i64 mh.cmd.k, .int .i64 mh.cmd.m, .slice A cn.length d, .slice V vs.length e, .slice B bs.length f] 40 (0, 0)
  clear e0 e1 e2 e3 e4 e5 e6 e7 e8 e9 e10 e11 e12 e13 e14 e15 e16 e17 e18 e19 e20 e21 e22 e23
  go_enter Try.func16, Try.ntmps16
  go_wp2_with (refine wpList_load_at rfl 40 (.tmp 1) rfl rfl hatM Try.underlying40 rfl (by kernel_rfl) ?_)
  have hwb := HW.out
  rw [← hwb]
  clear hwb HW hatM
  refine HMC.out.mono ?_
  rintro e1 w2 ⟨rfl, hb2⟩
  have hB2 := hBb.trans (hb2.mono hBb.size)
  have hr2 := (hb2.block w.heap.size (by omega)).trans HX.out
  have hsz2 : w.heap.size < w2.heap.size := (Array.getElem?_eq_some_iff.1 hr2).1
  have hbw := below1' w2 (.cells #[.slice none 0 0] 54)
  have hr3 := (hbw.block w.heap.size hsz2).trans hr2
  have hB3 := hB2.trans (hbw.mono hB2.size)
  have hW3 : WrAt (w2.alloc (.cells #[.slice none 0 0] 54)) w2.heap.size none 0 [] := ⟨heap_alloc_new w2 _, World.ownsRow_nil _ _ _ _⟩
  have hz3 : (w2.alloc (.cells #[.slice none 0 0] 54)).heap.size = w2.heap.size + 1 := by simp
  have he := mcells_of hr3
  obtain ⟨e0, e1, e2, e3, e4, e5, e6, e7, e8, e9, e10, e11, e12, e13, e14, e15, e16, e17, e18, e19, e20, e21, e22, e23⟩ := he
  have HR3 := Lib.hid hr3
  have HW3 := Lib.hid hW3
  obtain ⟨w3, hw3⟩ : ∃ w3, w3 = w2.alloc (.cells #[.slice none 0 0] 54) := ⟨_, rfl⟩
  rw [← hw3] at HR3 HW3 hB3 hz3
  have HWW := Lib.hid hw3
  clear hw3 hW3 hbw hr2 hr3 hb2 HMC HX HK
  go_wp2_with fail
  have hw3 := HWW.out
  rw [← hw3]
  clear hw3 HWW e0 e1 e2 e3 e4 e5 e6 e7 e8 e9 e10 e11 e12 e13 e14 e15 e16 e17 e18 e19 e20 e21 e22 e23
  have hbl := below1' w3 (.cells #[.int .i64 mh.kind, .int .i64 mh.frm, .int .i64 mh.to, .int .i64 mh.ballot, .int .i64 mh.slot, .int .i64 mh.blob, .int .i64 mh.index, .int .i64 mh.epoch, .int .i64 mh.id] 3)
  have hat : At (w3.alloc (.cells #[.int .i64 mh.kind, .int .i64 mh.frm, .int .i64 mh.to, .int .i64 mh.ballot, .int .i64 mh.slot, .int .i64 mh.blob, .int .i64 mh.index, .int .i64 mh.epoch, .int .i64 mh.id] 3)) (some ⟨w2.heap.size + 1, 0, none⟩) (ints (natsV mN)) := by
    have := at_new w3 #[.int .i64 mh.kind, .int .i64 mh.frm, .int .i64 mh.to, .int .i64 mh.ballot, .int .i64 mh.slot, .int .i64 mh.blob, .int .i64 mh.index, .int .i64 mh.epoch, .int .i64 mh.id] 3 (0, 0)
    rw [hz3] at this
    rw [HMN.out]
    exact this
  have hl9 : mN.length = 9 := by
    have := congrArg List.length HMN.out
    simpa using this
  have hpw : w.heap.size < w2.heap.size := hsz2
  refine (nums_calls (ns := mN) (HW3.out.keep hbl) hat (by rw [hl9]) (fun _ b off he => by injection he with he; injection he with he1 he2; exact ⟨by omega, fun h => by cases h⟩) HML.out (by rw [hl9]; simp)).mono ?_
  rintro e1 w4 ⟨rfl, A4, c4, hW4, hC4⟩
  have hb4 : Below w2.heap.size w3 w4 := (hbl.mono (by omega)).trans ((HW3.out.keep hbl).chg hC4)
  rw [List.nil_append] at hW4
  have hr4 := (hb4.block w.heap.size hpw).trans HR3.out
  have hB4 := hB3.trans (hb4.mono (by omega))
  have hn4 : (numsB mN).length ≤ 81 := by
    have := numsB_len (ns := mN) (fun x hx => by have := HML.out x hx; omega)
    rw [hl9] at this
    omega
  clear hbl hat hC4 hb4 HR3 HW3 HMN HML hl9
  generalize hpe : w2.heap.size = pw at *
  generalize numsB mN = xs4 at *
  have hokc : mh.ok = true ∨ mh.ok = false := by cases mh.ok <;> simp
  obtain ⟨bo, hbo⟩ : ∃ bo, bo = okB mh.ok := ⟨_, rfl⟩
  rw [← hbo] at HX0
  have hp4 := cell_of_row _ _ 0 _ _ (0, 0) hW4.hd
  have hf4 := frozen_of_row _ _ 0 _ _ hW4.hd
  simp only [List.getElem?_toArray, List.getElem?_cons_zero] at hp4
  have hk9 := cell_of_row _ _ 9 _ _ (0, 0) hr4
  simp only [List.getElem?_toArray, List.getElem?_cons_succ, List.getElem?_cons_zero] at hk9
  have hlw4 := hW4.lt
  have HR4 := Lib.hid hr4
  have HB4 := Lib.hid hB4
  clear hr4 hB4 hB2 hB3 hBb
  rcases hokc with hokv | hokv
  · rw [hokv] at hk9 hbo
    have hbv : bo = 1#8 := hbo
    subst hbv
    clear hbo
    have hbl := below1' w4 (.cells #[.int .u8 1] 5)
    have hatB : At (w4.alloc (.cells #[.int .u8 1] 5)) (some ⟨w4.heap.size, 0, none⟩) (bys [1#8]) := at_new w4 #[.int .u8 1] 5 (0, 0)
    have hW5 := hW4.keep hbl
    have hsz5 : pw + 1 ≤ (w4.alloc (.cells #[.int .u8 1] 5)).heap.size := by simp; omega
    have hne : ¬ pw = w.heap.size := by omega
    have HR5 := Lib.hid ((hbl.block w.heap.size (by omega)).trans HR4.out)
    go_wp2_with (refine app_bytes rfl (.tmp 34) (.tmp 36) rfl (pw + 1) (v := .slice A4 xs4.length c4) rfl hW5.own rfl (news := [1#8]) rfl hatB (by intro h; cases h) (by omega) hsz5 ?_; intro A6 c6 w6 ho6 hb6 hg6 hcap6; have hh6 := (hb6.block pw (by omega)).trans hW5.hd; have hp6 := cell_of_row _ _ 0 _ _ (0, 0) hh6; have hf6 := frozen_of_row _ _ 0 _ _ hh6; simp only [List.getElem?_toArray, List.getElem?_cons_zero] at hp6; have hr6 := (hb6.block w.heap.size (by omega)).trans HR5.out; have he := mcells_of hr6; obtain ⟨_, _, _, _, _, _, _, _, _, _, e10, e11, e12, e13, e14, e15, e16, e17, e18, e19, e20, e21, _, _⟩ := he)
    clear e10 e11 e12 e13 e14 e15 e16 e17 e18 e19 e20 e21
    have hls : (xs4 ++ [1#8]).length = xs4.length + 1 := by simp
    have hW7 : WrAt (w6.setCell ⟨pw, 0, none⟩ (.slice A6 (xs4.length + 1) c6)) pw A6 c6 (xs4 ++ [1#8]) :=
      ⟨by rw [hls]; exact heap_setCell_same w6 pw 0 _ _ _ hh6, by rw [hls]; exact ownsRow_setCell_below ho6 (show pw < pw + 1 by omega) _⟩
    have hb7 : Below pw w4 (w6.setCell ⟨pw, 0, none⟩ (.slice A6 (xs4.length + 1) c6)) := ((hbl.mono (by omega)).trans (hb6.mono (by omega))).setCell (by show pw ≤ pw; omega) _
    generalize w6.setCell ⟨pw, 0, none⟩ (.slice A6 (xs4.length + 1) c6) = w7 at *
    clear hh6 hp6 hf6 ho6 hb6 hg6 hcap6 hr6 hatB hbl hW5 hsz5 hp4 hf4 hk9 HR5 hW4
    have HX1 : Hid (res = (xs4 ++ [1#8]) ++ (cmdB mh.cmd cn ++ numsB [vs.length] ++ votesB vs ++ numsB [bs.length] ++ bs)) := by show res = _; rw [HX0.out]; simp only [List.append_assoc]
    have hn7 : (xs4 ++ [1#8]).length ≤ 82 := by omega
    clear HX0 hls hn4
    generalize xs4 ++ [1#8] = xs7 at *
    have hr7 := (hb7.block w.heap.size hpw).trans HR4.out
    have hB7 := HB4.out.trans (hb7.mono (by omega))
    have HK7 := Lib.hid (HKw.out.below hB7)
    have HCW := Lib.hid (wcmd_calls (n := cn.length) (d := d) mh.cmd hW7 HK7.out.cn rfl (fun hl0 b off he => by
      obtain ⟨b', off', he', hc⟩ := HKw.out.cn.int (k := 0) hl0
      rw [he] at he'
      injection he' with he'
      injection he' with he1 _
      have := block_lt hc
      subst he1
      exact ⟨by omega, hW7.addr (.inl (by omega))⟩) (mayC_ok.1 HOK.out.cmd) HKw.out.sum (by omega))
    refine HCW.out.mono ?_
    rintro e1 w8 ⟨rfl, A8, c8, hW8, hC8⟩
    have hb8 := hW7.chg hC8
    have hr8 := (hb8.block w.heap.size hpw).trans hr7
    have hB8 := hB7.trans (hb8.mono (by omega))
    have hn8 : (xs7 ++ cmdB mh.cmd cn).length ≤ 2600 := by
      have := cmdB_len (mayC_ok.1 HOK.out.cmd) HKw.out.sum
      simp only at this
      rw [List.length_append]; omega
    have HX2 : Hid (res = (xs7 ++ cmdB mh.cmd cn) ++ (numsB [vs.length] ++ votesB vs ++ numsB [bs.length] ++ bs)) := by show res = _; rw [HX1.out]; simp only [List.append_assoc]
    clear HCW hC8 hb8 hr7 hB7 hW7 hb7 HX1 hn7 HR4 HB4 HK7
    generalize xs7 ++ cmdB mh.cmd cn = xs8 at *
    have e22 := cell_of_row _ _ 22 _ _ (0, 0) hr8
    simp only [List.getElem?_toArray, List.getElem?_cons_succ, List.getElem?_cons_zero] at e22
    go_wp2_with fail
    clear e22
    have hbl := below1' w8 (.cells #[.int .i64 (vs.length : Int)] 3)
    have hat : At (w8.alloc (.cells #[.int .i64 (vs.length : Int)] 3)) (some ⟨w8.heap.size, 0, none⟩) (ints (natsV [vs.length])) := at_new w8 #[.int .i64 (vs.length : Int)] 3 (0, 0)
    have hlt8 := hW8.lt
    have hvl : vs.length ≤ 1000 := HOK.out.vlen
    refine (nums_calls (ns := [vs.length]) (hW8.keep hbl) hat rfl (fun _ b off he => by
      injection he with he
      injection he with he1 he2
      subst he1
      exact ⟨by omega, hW8.addr (.inr (Nat.le_refl _))⟩) (fun x hx => by rw [List.mem_singleton] at hx; subst hx; omega) (by show _ + 9 * 1 ≤ _; omega)).mono ?_
    rintro e1 w9 ⟨rfl, A9, c9, hW9, hC9⟩
    have hb9 : Below pw w8 w9 := (hbl.mono (by omega)).trans ((hW8.keep hbl).chg hC9)
    have hr9 := (hb9.block w.heap.size hpw).trans hr8
    have hB9 := hB8.trans (hb9.mono (by omega))
    have hn9 : (xs8 ++ numsB [vs.length]).length ≤ 2700 := by
      have := numsB_len (ns := [vs.length]) (fun x hx => by rw [List.mem_singleton] at hx; subst hx; omega)
      rw [List.length_append]
      simp only [List.length_cons, List.length_nil] at this
      omega
    have HX3 : Hid (res = (xs8 ++ numsB [vs.length]) ++ (votesB vs ++ numsB [bs.length] ++ bs)) := by show res = _; rw [HX2.out]; simp only [List.append_assoc]
    clear hbl hat hC9 hb9 hr8 hB8 hW8 HX2 hn8 hlt8
    generalize xs8 ++ numsB [vs.length] = xs9 at *
    have e22 := cell_of_row _ _ 22 _ _ (0, 0) hr9
    simp only [List.getElem?_toArray, List.getElem?_cons_succ, List.getElem?_cons_zero] at e22
    go_wp2_with fail
    clear e22
    have HR9 := Lib.hid hr9
    clear hr9
    go_loopw [50] (fun s50 wr => ∃ (j : Nat) (Aj : Option Addr) (cj : Nat), j ≤ vs.length ∧ s50 = .int .i64 ((j : Nat) : Int) ∧ WrAt wr pw Aj cj (xs9 ++ votesB (vs.take j)) ∧ Below w.heap.size w wr ∧ Hid (wr.heap[w.heap.size]? = w9.heap[w.heap.size]?)) (fun s50 _ => vs.length - (intOf s50).toNat)
    case atStart => exact ⟨0, A9, c9, by omega, rfl, by rw [List.take_zero, votesB, List.append_nil]; exact hW9, hB9, rfl⟩
    case round =>
      obtain ⟨j, Aj, cj, hj, rfl, hW, hB, HEQ⟩ := hrel
      rename World => wr
      clear hW9 hB9
      by_cases hjv : j < vs.length
      · obtain ⟨v, hv⟩ : ∃ v, vs[j]? = some v := ⟨_, List.getElem?_eq_getElem hjv⟩
        obtain ⟨us, hvA, hvV⟩ := HKw.out.vts
        simp only at hvV
        have hlu := Vts.length _ _ hvV
        obtain ⟨b, off, rfl⟩ := some_of_at hvA (by omega)
        obtain ⟨cs, ⟨nA, nd, rfl, hn1, hn2, hn3, hn4⟩, hat⟩ := Vts.at' _ _ j v hvV hvA hv
        have hat1 : At wr (some ⟨b, off + j * 14, none⟩) _ := hat.below hB
        have hmv := HOK.out.votes v (List.mem_of_getElem? hv)
        have HTK := Lib.hid (show vs.take (j + 1) = vs.take j ++ [v] by rw [List.take_add_one, hv]; rfl)
        obtain ⟨hp1, hp2, hp3⟩ := mayV_parts hmv
        have hlj : (xs9 ++ votesB (vs.take j)).length ≤ 2800000 := by
          have := votesB_len (vs.take j) (fun u hu => ⟨HOK.out.votes u (List.mem_of_mem_take hu), Vts.sum _ _ hvV u (List.mem_of_mem_take hu)⟩)
          rw [List.length_take] at this
          rw [List.length_append]
          omega
        obtain ⟨vs0, vb0, vc0, vl0⟩ := v
        simp only at hat1 hn1 hn2 hn3 hn4 hp1 hp2 hp3
        have HP3 := Lib.hid hp3
        have HN1 := Lib.hid hn1
        have hvm := Lib.hid (show natsV [vs0.toNat, vb0.toNat] = [vs0, vb0] by unfold natsV; simp only [List.map_cons, List.map_nil]; rw [Int.toNat_of_nonneg hp1.1, Int.toNat_of_nonneg hp2.1])
        have hvb : ∀ x, x ∈ [vs0.toNat, vb0.toNat] → x ≤ 1152921504606846976 := by
          intro x hx
          simp only [List.mem_cons, List.not_mem_nil, or_false] at hx
          rcases hx with rfl | rfl <;> omega
        have HVB := Lib.hid hvb
        have hji : (j : Int) < (vs.length : Int) := by omega
        have hj0 : (0 : Int) ≤ (j : Int) := by omega
        have hmi : (vs.length : Int) ≤ 1000 := by omega
        have HXJ : Hid (xs9 ++ votesB (vs.take (j + 1)) = (xs9 ++ votesB (vs.take j)) ++ numsB [vs0.toNat, vb0.toNat] ++ cmdB vc0 vl0) := by
          show _ = _
          rw [HTK.out, votesB_append]
          simp only [votesB, voteB, List.append_nil, List.append_assoc]
        generalize xs9 ++ votesB (vs.take j) = xj at *
        clear hv hat hvA hvV hlu hmv hp3 hvb hn2 hp1 hp2 HTK
        have hltj := hW.lt
        go_wp2_with (refine wpList_load_at rfl 74 (.tmp 52) rfl rfl hat1 Try.underlying74 rfl (by kernel_rfl) ?_)
        have hbx := below1' wr (.cells #[.int .i64 vs0, .int .i64 vb0, .int .i64 vc0.id, .int .i64 vc0.kind, .string vc0.key, .int .i64 vc0.blob, .int .i64 vc0.other, .int .i64 vc0.index, .int .i64 vc0.node, .int .i64 vc0.size, .int .u32 vc0.sum, .int .i64 vc0.k, .int .i64 vc0.m, .slice nA vl0.length nd] 74)
        have hgx : (wr.alloc (.cells #[.int .i64 vs0, .int .i64 vb0, .int .i64 vc0.id, .int .i64 vc0.kind, .string vc0.key, .int .i64 vc0.blob, .int .i64 vc0.other, .int .i64 vc0.index, .int .i64 vc0.node, .int .i64 vc0.size, .int .u32 vc0.sum, .int .i64 vc0.k, .int .i64 vc0.m, .slice nA vl0.length nd] 74)).heap[wr.heap.size]? = some (.cells #[.int .i64 vs0, .int .i64 vb0, .int .i64 vc0.id, .int .i64 vc0.kind, .string vc0.key, .int .i64 vc0.blob, .int .i64 vc0.other, .int .i64 vc0.index, .int .i64 vc0.node, .int .i64 vc0.size, .int .u32 vc0.sum, .int .i64 vc0.k, .int .i64 vc0.m, .slice nA vl0.length nd] 74 (0, 0)) := heap_alloc_new wr _
        have hzx : (wr.alloc (.cells #[.int .i64 vs0, .int .i64 vb0, .int .i64 vc0.id, .int .i64 vc0.kind, .string vc0.key, .int .i64 vc0.blob, .int .i64 vc0.other, .int .i64 vc0.index, .int .i64 vc0.node, .int .i64 vc0.size, .int .u32 vc0.sum, .int .i64 vc0.k, .int .i64 vc0.m, .slice nA vl0.length nd] 74)).heap.size = wr.heap.size + 1 := by simp
        have hWx := hW.keep hbx
        have hAj : Aj ≠ some ⟨wr.heap.size, 0, none⟩ := hW.addr (.inr (Nat.le_refl _))
        have hAj1 : Aj ≠ some ⟨wr.heap.size + 1, 0, none⟩ := hW.addr (.inr (by omega))
        have hBx := hB.trans (hbx.mono hB.size)
        have HEQx := Lib.hid ((hbx.block w.heap.size (by omega)).trans HEQ.out)
        clear hat1 hW hB hbx HEQ
        generalize wr.alloc (.cells #[.int .i64 vs0, .int .i64 vb0, .int .i64 vc0.id, .int .i64 vc0.kind, .string vc0.key, .int .i64 vc0.blob, .int .i64 vc0.other, .int .i64 vc0.index, .int .i64 vc0.node, .int .i64 vc0.size, .int .u32 vc0.sum, .int .i64 vc0.k, .int .i64 vc0.m, .slice nA vl0.length nd] 74) = wx at *
        have hbl := below1' wx (.cells #[.int .i64 vs0, .int .i64 vb0] 3)
        have hat : At (wx.alloc (.cells #[.int .i64 vs0, .int .i64 vb0] 3)) (some ⟨wr.heap.size + 1, 0, none⟩) (ints (natsV [vs0.toNat, vb0.toNat])) := by
          rw [hvm.out]
          have := at_new wx #[.int .i64 vs0, .int .i64 vb0] 3 (0, 0)
          rw [hzx] at this
          exact this
        refine (nums_calls (ns := [vs0.toNat, vb0.toNat]) (hWx.keep hbl) hat rfl (fun _ b off he => by
          injection he with he
          injection he with he1 he2
          subst he1
          exact ⟨by omega, hAj1⟩) HVB.out (by show _ + 9 * 2 ≤ _; omega)).mono ?_
        rintro e1 w11 ⟨rfl, A11, c11, hW11, hC11⟩
        have hb11 : Below pw wx w11 := (hbl.mono (by omega)).trans ((hWx.keep hbl).chg hC11)
        have hg11 := (hC11.block wr.heap.size (by simp; omega) (by omega) hAj).trans ((hbl.block wr.heap.size (by omega)).trans hgx)
        have hB11 := hBx.trans (hb11.mono (by omega))
        have HEQ11 := Lib.hid ((hb11.block w.heap.size hpw).trans HEQx.out)
        have hl11 : (xj ++ numsB [vs0.toNat, vb0.toNat]).length ≤ 2800100 := by
          have := numsB_len (ns := [vs0.toNat, vb0.toNat]) (fun x hx => by have := HVB.out x hx; omega)
          rw [List.length_append]
          simp only [List.length_cons, List.length_nil] at this
          omega
        clear hbl hat hC11 hb11 hgx hWx hBx HEQx hvm HVB hAj hAj1
        generalize xj ++ numsB [vs0.toNat, vb0.toNat] = x11 at *
        have he := vcells_of hg11
        obtain ⟨e0, e1, e2, e3, e4, e5, e6, e7, e8, e9, e10, e11, e12, e13⟩ := he
        clear e0 e1
        have HCW2 := Lib.hid (wcmd_calls (n := vl0.length) (d := nd) vc0 hW11 (HN1.out.below hB11) rfl (fun hl0 b off he => by
          obtain ⟨b', off', he', hc⟩ := HN1.out.int (k := 0) hl0
          rw [he] at he'
          injection he' with he'
          injection he' with he1 _
          have := block_lt hc
          subst he1
          exact ⟨by omega, hW11.addr (.inl (by omega))⟩) HP3.out hn4 (by omega))
        go_wp2_with fail
        clear e2 e3 e4 e5 e6 e7 e8 e9 e10 e11 e12 e13
        refine HCW2.out.mono ?_
        rintro e1 w12 ⟨rfl, A12, c12, hW12, hC12⟩
        have hb12 := hW11.chg hC12
        have hB12 := hB11.trans (hb12.mono (by omega))
        have HEQ12 := Lib.hid ((hb12.block w.heap.size hpw).trans HEQ11.out)
        rw [← HXJ.out] at hW12
        clear HCW2 hC12 hb12 hW11 hB11 HEQ11 hg11 hn1
        go_wp2_with fail
        exact ⟨⟨j + 1, A12, c12, by omega, by go_num, hW12, hB12, HEQ12⟩, by simp [intOf]; omega⟩
      · obtain rfl : vs.length = j := by omega
        rw [List.take_length] at hW
        have hnj : (xs9 ++ votesB vs).length ≤ 2800000 := by
          obtain ⟨us, hvA, hvV⟩ := HKw.out.vts
          have := votesB_len vs (fun u hu => ⟨HOK.out.votes u hu, Vts.sum _ _ hvV u hu⟩)
          rw [List.length_append]
          omega
        have HX4 : Hid (res = (xs9 ++ votesB vs) ++ (numsB [bs.length] ++ bs)) := by show res = _; rw [HX3.out]; simp only [List.append_assoc]
        clear HX3 hn9
        generalize xs9 ++ votesB vs = xj at *
        have hrj := HEQ.out.trans HR9.out
        have e23 := cell_of_row _ _ 23 _ _ (0, 0) hrj
        simp only [List.getElem?_toArray, List.getElem?_cons_succ, List.getElem?_cons_zero] at e23
        have HRJ := Lib.hid hrj
        clear HEQ HR9 hrj
        go_wp2_with fail
        clear e23
        have hbl := below1' wr (.cells #[.int .i64 (bs.length : Int)] 3)
        have hat : At (wr.alloc (.cells #[.int .i64 (bs.length : Int)] 3)) (some ⟨wr.heap.size, 0, none⟩) (ints (natsV [bs.length])) := at_new wr #[.int .i64 (bs.length : Int)] 3 (0, 0)
        have hltj := hW.lt
        have hvb : bs.length ≤ 2000 := HOK.out.blen
        refine (nums_calls (ns := [bs.length]) (hW.keep hbl) hat rfl (fun _ b off he => by
          injection he with he
          injection he with he1 he2
          subst he1
          exact ⟨by omega, hW.addr (.inr (Nat.le_refl _))⟩) (fun x hx => by rw [List.mem_singleton] at hx; subst hx; omega) (by show _ + 9 * 1 ≤ _; omega)).mono ?_
        rintro e1 w14 ⟨rfl, A14, c14, hW14, hC14⟩
        have hb14 : Below pw wr w14 := (hbl.mono (by omega)).trans ((hW.keep hbl).chg hC14)
        have hr14 := (hb14.block w.heap.size hpw).trans HRJ.out
        have hB14 := hB.trans (hb14.mono (by omega))
        have hn14 : (xj ++ numsB [bs.length]).length ≤ 2800100 := by
          have := numsB_len (ns := [bs.length]) (fun x hx => by rw [List.mem_singleton] at hx; subst hx; omega)
          rw [List.length_append]
          simp only [List.length_cons, List.length_nil] at this
          omega
        have HX5 : Hid (res = (xj ++ numsB [bs.length]) ++ bs) := by show res = _; rw [HX4.out]; simp only [List.append_assoc]
        clear hbl hat hC14 hb14 HRJ hB hW HX4 hnj hltj
        generalize xj ++ numsB [bs.length] = x14 at *
        have e23 := cell_of_row _ _ 23 _ _ (0, 0) hr14
        simp only [List.getElem?_toArray, List.getElem?_cons_succ, List.getElem?_cons_zero] at e23
        have hp14 := cell_of_row _ _ 0 _ _ (0, 0) hW14.hd
        have hf14 := frozen_of_row _ _ 0 _ _ hW14.hd
        simp only [List.getElem?_toArray, List.getElem?_cons_zero] at hp14
        have hat := HKw.out.bs.below hB14
        have hbnil := HKw.out.bnil
        simp only at hat
        have hsz14 : pw + 1 ≤ w14.heap.size := hW14.lt
        clear hr14
        go_wp2_with (refine app_bytes rfl (.tmp 70) (.tmp 72) rfl (pw + 1) (v := .slice A14 x14.length c14) rfl hW14.own rfl (news := bs) rfl hat hbnil (by omega) hsz14 ?_; intro A16 c16 w16 ho16 hb16 hg16 hcap16; have hh16 := (hb16.block pw (by omega)).trans hW14.hd; have hp16 := cell_of_row _ _ 0 _ _ (0, 0) hh16; have hf16 := frozen_of_row _ _ 0 _ _ hh16; simp only [List.getElem?_toArray, List.getElem?_cons_zero] at hp16)
        go_ret2
        have hls : (x14 ++ bs).length = x14.length + bs.length := by simp
        rw [HX5.out]
        refine ⟨A16, c16, by rw [hls]; rfl, ?_, (hB14.trans (hb16.mono (by omega))).setCell (by show w.heap.size ≤ pw; omega) _⟩
        rw [hls]
        exact own_lower (ownsRow_setCell_below ho16 (show pw < pw + 1 by omega) _) (by omega)
  · rw [hokv] at hk9 hbo
    have hbv : bo = 0#8 := hbo
    subst hbv
    clear hbo
    have hbl := below1' w4 (.cells #[.int .u8 0] 5)
    have hatB : At (w4.alloc (.cells #[.int .u8 0] 5)) (some ⟨w4.heap.size, 0, none⟩) (bys [0#8]) := at_new w4 #[.int .u8 0] 5 (0, 0)
    have hW5 := hW4.keep hbl
    have hsz5 : pw + 1 ≤ (w4.alloc (.cells #[.int .u8 0] 5)).heap.size := by simp; omega
    have hne : ¬ pw = w.heap.size := by omega
    have HR5 := Lib.hid ((hbl.block w.heap.size (by omega)).trans HR4.out)
    go_wp2_with (refine app_bytes rfl (.tmp 34) (.tmp 36) rfl (pw + 1) (v := .slice A4 xs4.length c4) rfl hW5.own rfl (news := [0#8]) rfl hatB (by intro h; cases h) (by omega) hsz5 ?_; intro A6 c6 w6 ho6 hb6 hg6 hcap6; have hh6 := (hb6.block pw (by omega)).trans hW5.hd; have hp6 := cell_of_row _ _ 0 _ _ (0, 0) hh6; have hf6 := frozen_of_row _ _ 0 _ _ hh6; simp only [List.getElem?_toArray, List.getElem?_cons_zero] at hp6; have hr6 := (hb6.block w.heap.size (by omega)).trans HR5.out; have he := mcells_of hr6; obtain ⟨_, _, _, _, _, _, _, _, _, _, e10, e11, e12, e13, e14, e15, e16, e17, e18, e19, e20, e21, _, _⟩ := he)
    clear e10 e11 e12 e13 e14 e15 e16 e17 e18 e19 e20 e21
    have hls : (xs4 ++ [0#8]).length = xs4.length + 1 := by simp
    have hW7 : WrAt (w6.setCell ⟨pw, 0, none⟩ (.slice A6 (xs4.length + 1) c6)) pw A6 c6 (xs4 ++ [0#8]) :=
      ⟨by rw [hls]; exact heap_setCell_same w6 pw 0 _ _ _ hh6, by rw [hls]; exact ownsRow_setCell_below ho6 (show pw < pw + 1 by omega) _⟩
    have hb7 : Below pw w4 (w6.setCell ⟨pw, 0, none⟩ (.slice A6 (xs4.length + 1) c6)) := ((hbl.mono (by omega)).trans (hb6.mono (by omega))).setCell (by show pw ≤ pw; omega) _
    generalize w6.setCell ⟨pw, 0, none⟩ (.slice A6 (xs4.length + 1) c6) = w7 at *
    clear hh6 hp6 hf6 ho6 hb6 hg6 hcap6 hr6 hatB hbl hW5 hsz5 hp4 hf4 hk9 HR5 hW4
    have HX1 : Hid (res = (xs4 ++ [0#8]) ++ (cmdB mh.cmd cn ++ numsB [vs.length] ++ votesB vs ++ numsB [bs.length] ++ bs)) := by show res = _; rw [HX0.out]; simp only [List.append_assoc]
    have hn7 : (xs4 ++ [0#8]).length ≤ 82 := by omega
    clear HX0 hls hn4
    generalize xs4 ++ [0#8] = xs7 at *
    have hr7 := (hb7.block w.heap.size hpw).trans HR4.out
    have hB7 := HB4.out.trans (hb7.mono (by omega))
    have HK7 := Lib.hid (HKw.out.below hB7)
    have HCW := Lib.hid (wcmd_calls (n := cn.length) (d := d) mh.cmd hW7 HK7.out.cn rfl (fun hl0 b off he => by
      obtain ⟨b', off', he', hc⟩ := HKw.out.cn.int (k := 0) hl0
      rw [he] at he'
      injection he' with he'
      injection he' with he1 _
      have := block_lt hc
      subst he1
      exact ⟨by omega, hW7.addr (.inl (by omega))⟩) (mayC_ok.1 HOK.out.cmd) HKw.out.sum (by omega))
    refine HCW.out.mono ?_
    rintro e1 w8 ⟨rfl, A8, c8, hW8, hC8⟩
    have hb8 := hW7.chg hC8
    have hr8 := (hb8.block w.heap.size hpw).trans hr7
    have hB8 := hB7.trans (hb8.mono (by omega))
    have hn8 : (xs7 ++ cmdB mh.cmd cn).length ≤ 2600 := by
      have := cmdB_len (mayC_ok.1 HOK.out.cmd) HKw.out.sum
      simp only at this
      rw [List.length_append]; omega
    have HX2 : Hid (res = (xs7 ++ cmdB mh.cmd cn) ++ (numsB [vs.length] ++ votesB vs ++ numsB [bs.length] ++ bs)) := by show res = _; rw [HX1.out]; simp only [List.append_assoc]
    clear HCW hC8 hb8 hr7 hB7 hW7 hb7 HX1 hn7 HR4 HB4 HK7
    generalize xs7 ++ cmdB mh.cmd cn = xs8 at *
    have e22 := cell_of_row _ _ 22 _ _ (0, 0) hr8
    simp only [List.getElem?_toArray, List.getElem?_cons_succ, List.getElem?_cons_zero] at e22
    go_wp2_with fail
    clear e22
    have hbl := below1' w8 (.cells #[.int .i64 (vs.length : Int)] 3)
    have hat : At (w8.alloc (.cells #[.int .i64 (vs.length : Int)] 3)) (some ⟨w8.heap.size, 0, none⟩) (ints (natsV [vs.length])) := at_new w8 #[.int .i64 (vs.length : Int)] 3 (0, 0)
    have hlt8 := hW8.lt
    have hvl : vs.length ≤ 1000 := HOK.out.vlen
    refine (nums_calls (ns := [vs.length]) (hW8.keep hbl) hat rfl (fun _ b off he => by
      injection he with he
      injection he with he1 he2
      subst he1
      exact ⟨by omega, hW8.addr (.inr (Nat.le_refl _))⟩) (fun x hx => by rw [List.mem_singleton] at hx; subst hx; omega) (by show _ + 9 * 1 ≤ _; omega)).mono ?_
    rintro e1 w9 ⟨rfl, A9, c9, hW9, hC9⟩
    have hb9 : Below pw w8 w9 := (hbl.mono (by omega)).trans ((hW8.keep hbl).chg hC9)
    have hr9 := (hb9.block w.heap.size hpw).trans hr8
    have hB9 := hB8.trans (hb9.mono (by omega))
    have hn9 : (xs8 ++ numsB [vs.length]).length ≤ 2700 := by
      have := numsB_len (ns := [vs.length]) (fun x hx => by rw [List.mem_singleton] at hx; subst hx; omega)
      rw [List.length_append]
      simp only [List.length_cons, List.length_nil] at this
      omega
    have HX3 : Hid (res = (xs8 ++ numsB [vs.length]) ++ (votesB vs ++ numsB [bs.length] ++ bs)) := by show res = _; rw [HX2.out]; simp only [List.append_assoc]
    clear hbl hat hC9 hb9 hr8 hB8 hW8 HX2 hn8 hlt8
    generalize xs8 ++ numsB [vs.length] = xs9 at *
    have e22 := cell_of_row _ _ 22 _ _ (0, 0) hr9
    simp only [List.getElem?_toArray, List.getElem?_cons_succ, List.getElem?_cons_zero] at e22
    go_wp2_with fail
    clear e22
    have HR9 := Lib.hid hr9
    clear hr9
    go_loopw [50] (fun s50 wr => ∃ (j : Nat) (Aj : Option Addr) (cj : Nat), j ≤ vs.length ∧ s50 = .int .i64 ((j : Nat) : Int) ∧ WrAt wr pw Aj cj (xs9 ++ votesB (vs.take j)) ∧ Below w.heap.size w wr ∧ Hid (wr.heap[w.heap.size]? = w9.heap[w.heap.size]?)) (fun s50 _ => vs.length - (intOf s50).toNat)
    case atStart => exact ⟨0, A9, c9, by omega, rfl, by rw [List.take_zero, votesB, List.append_nil]; exact hW9, hB9, rfl⟩
    case round =>
      obtain ⟨j, Aj, cj, hj, rfl, hW, hB, HEQ⟩ := hrel
      rename World => wr
      clear hW9 hB9
      by_cases hjv : j < vs.length
      · obtain ⟨v, hv⟩ : ∃ v, vs[j]? = some v := ⟨_, List.getElem?_eq_getElem hjv⟩
        obtain ⟨us, hvA, hvV⟩ := HKw.out.vts
        simp only at hvV
        have hlu := Vts.length _ _ hvV
        obtain ⟨b, off, rfl⟩ := some_of_at hvA (by omega)
        obtain ⟨cs, ⟨nA, nd, rfl, hn1, hn2, hn3, hn4⟩, hat⟩ := Vts.at' _ _ j v hvV hvA hv
        have hat1 : At wr (some ⟨b, off + j * 14, none⟩) _ := hat.below hB
        have hmv := HOK.out.votes v (List.mem_of_getElem? hv)
        have HTK := Lib.hid (show vs.take (j + 1) = vs.take j ++ [v] by rw [List.take_add_one, hv]; rfl)
        obtain ⟨hp1, hp2, hp3⟩ := mayV_parts hmv
        have hlj : (xs9 ++ votesB (vs.take j)).length ≤ 2800000 := by
          have := votesB_len (vs.take j) (fun u hu => ⟨HOK.out.votes u (List.mem_of_mem_take hu), Vts.sum _ _ hvV u (List.mem_of_mem_take hu)⟩)
          rw [List.length_take] at this
          rw [List.length_append]
          omega
        obtain ⟨vs0, vb0, vc0, vl0⟩ := v
        simp only at hat1 hn1 hn2 hn3 hn4 hp1 hp2 hp3
        have HP3 := Lib.hid hp3
        have HN1 := Lib.hid hn1
        have hvm := Lib.hid (show natsV [vs0.toNat, vb0.toNat] = [vs0, vb0] by unfold natsV; simp only [List.map_cons, List.map_nil]; rw [Int.toNat_of_nonneg hp1.1, Int.toNat_of_nonneg hp2.1])
        have hvb : ∀ x, x ∈ [vs0.toNat, vb0.toNat] → x ≤ 1152921504606846976 := by
          intro x hx
          simp only [List.mem_cons, List.not_mem_nil, or_false] at hx
          rcases hx with rfl | rfl <;> omega
        have HVB := Lib.hid hvb
        have hji : (j : Int) < (vs.length : Int) := by omega
        have hj0 : (0 : Int) ≤ (j : Int) := by omega
        have hmi : (vs.length : Int) ≤ 1000 := by omega
        have HXJ : Hid (xs9 ++ votesB (vs.take (j + 1)) = (xs9 ++ votesB (vs.take j)) ++ numsB [vs0.toNat, vb0.toNat] ++ cmdB vc0 vl0) := by
          show _ = _
          rw [HTK.out, votesB_append]
          simp only [votesB, voteB, List.append_nil, List.append_assoc]
        generalize xs9 ++ votesB (vs.take j) = xj at *
        clear hv hat hvA hvV hlu hmv hp3 hvb hn2 hp1 hp2 HTK
        have hltj := hW.lt
        go_wp2_with (refine wpList_load_at rfl 74 (.tmp 52) rfl rfl hat1 Try.underlying74 rfl (by kernel_rfl) ?_)
        have hbx := below1' wr (.cells #[.int .i64 vs0, .int .i64 vb0, .int .i64 vc0.id, .int .i64 vc0.kind, .string vc0.key, .int .i64 vc0.blob, .int .i64 vc0.other, .int .i64 vc0.index, .int .i64 vc0.node, .int .i64 vc0.size, .int .u32 vc0.sum, .int .i64 vc0.k, .int .i64 vc0.m, .slice nA vl0.length nd] 74)
        have hgx : (wr.alloc (.cells #[.int .i64 vs0, .int .i64 vb0, .int .i64 vc0.id, .int .i64 vc0.kind, .string vc0.key, .int .i64 vc0.blob, .int .i64 vc0.other, .int .i64 vc0.index, .int .i64 vc0.node, .int .i64 vc0.size, .int .u32 vc0.sum, .int .i64 vc0.k, .int .i64 vc0.m, .slice nA vl0.length nd] 74)).heap[wr.heap.size]? = some (.cells #[.int .i64 vs0, .int .i64 vb0, .int .i64 vc0.id, .int .i64 vc0.kind, .string vc0.key, .int .i64 vc0.blob, .int .i64 vc0.other, .int .i64 vc0.index, .int .i64 vc0.node, .int .i64 vc0.size, .int .u32 vc0.sum, .int .i64 vc0.k, .int .i64 vc0.m, .slice nA vl0.length nd] 74 (0, 0)) := heap_alloc_new wr _
        have hzx : (wr.alloc (.cells #[.int .i64 vs0, .int .i64 vb0, .int .i64 vc0.id, .int .i64 vc0.kind, .string vc0.key, .int .i64 vc0.blob, .int .i64 vc0.other, .int .i64 vc0.index, .int .i64 vc0.node, .int .i64 vc0.size, .int .u32 vc0.sum, .int .i64 vc0.k, .int .i64 vc0.m, .slice nA vl0.length nd] 74)).heap.size = wr.heap.size + 1 := by simp
        have hWx := hW.keep hbx
        have hAj : Aj ≠ some ⟨wr.heap.size, 0, none⟩ := hW.addr (.inr (Nat.le_refl _))
        have hAj1 : Aj ≠ some ⟨wr.heap.size + 1, 0, none⟩ := hW.addr (.inr (by omega))
        have hBx := hB.trans (hbx.mono hB.size)
        have HEQx := Lib.hid ((hbx.block w.heap.size (by omega)).trans HEQ.out)
        clear hat1 hW hB hbx HEQ
        generalize wr.alloc (.cells #[.int .i64 vs0, .int .i64 vb0, .int .i64 vc0.id, .int .i64 vc0.kind, .string vc0.key, .int .i64 vc0.blob, .int .i64 vc0.other, .int .i64 vc0.index, .int .i64 vc0.node, .int .i64 vc0.size, .int .u32 vc0.sum, .int .i64 vc0.k, .int .i64 vc0.m, .slice nA vl0.length nd] 74) = wx at *
        have hbl := below1' wx (.cells #[.int .i64 vs0, .int .i64 vb0] 3)
        have hat : At (wx.alloc (.cells #[.int .i64 vs0, .int .i64 vb0] 3)) (some ⟨wr.heap.size + 1, 0, none⟩) (ints (natsV [vs0.toNat, vb0.toNat])) := by
          rw [hvm.out]
          have := at_new wx #[.int .i64 vs0, .int .i64 vb0] 3 (0, 0)
          rw [hzx] at this
          exact this
        refine (nums_calls (ns := [vs0.toNat, vb0.toNat]) (hWx.keep hbl) hat rfl (fun _ b off he => by
          injection he with he
          injection he with he1 he2
          subst he1
          exact ⟨by omega, hAj1⟩) HVB.out (by show _ + 9 * 2 ≤ _; omega)).mono ?_
        rintro e1 w11 ⟨rfl, A11, c11, hW11, hC11⟩
        have hb11 : Below pw wx w11 := (hbl.mono (by omega)).trans ((hWx.keep hbl).chg hC11)
        have hg11 := (hC11.block wr.heap.size (by simp; omega) (by omega) hAj).trans ((hbl.block wr.heap.size (by omega)).trans hgx)
        have hB11 := hBx.trans (hb11.mono (by omega))
        have HEQ11 := Lib.hid ((hb11.block w.heap.size hpw).trans HEQx.out)
        have hl11 : (xj ++ numsB [vs0.toNat, vb0.toNat]).length ≤ 2800100 := by
          have := numsB_len (ns := [vs0.toNat, vb0.toNat]) (fun x hx => by have := HVB.out x hx; omega)
          rw [List.length_append]
          simp only [List.length_cons, List.length_nil] at this
          omega
        clear hbl hat hC11 hb11 hgx hWx hBx HEQx hvm HVB hAj hAj1
        generalize xj ++ numsB [vs0.toNat, vb0.toNat] = x11 at *
        have he := vcells_of hg11
        obtain ⟨e0, e1, e2, e3, e4, e5, e6, e7, e8, e9, e10, e11, e12, e13⟩ := he
        clear e0 e1
        have HCW2 := Lib.hid (wcmd_calls (n := vl0.length) (d := nd) vc0 hW11 (HN1.out.below hB11) rfl (fun hl0 b off he => by
          obtain ⟨b', off', he', hc⟩ := HN1.out.int (k := 0) hl0
          rw [he] at he'
          injection he' with he'
          injection he' with he1 _
          have := block_lt hc
          subst he1
          exact ⟨by omega, hW11.addr (.inl (by omega))⟩) HP3.out hn4 (by omega))
        go_wp2_with fail
        clear e2 e3 e4 e5 e6 e7 e8 e9 e10 e11 e12 e13
        refine HCW2.out.mono ?_
        rintro e1 w12 ⟨rfl, A12, c12, hW12, hC12⟩
        have hb12 := hW11.chg hC12
        have hB12 := hB11.trans (hb12.mono (by omega))
        have HEQ12 := Lib.hid ((hb12.block w.heap.size hpw).trans HEQ11.out)
        rw [← HXJ.out] at hW12
        clear HCW2 hC12 hb12 hW11 hB11 HEQ11 hg11 hn1
        go_wp2_with fail
        exact ⟨⟨j + 1, A12, c12, by omega, by go_num, hW12, hB12, HEQ12⟩, by simp [intOf]; omega⟩
      · obtain rfl : vs.length = j := by omega
        rw [List.take_length] at hW
        have hnj : (xs9 ++ votesB vs).length ≤ 2800000 := by
          obtain ⟨us, hvA, hvV⟩ := HKw.out.vts
          have := votesB_len vs (fun u hu => ⟨HOK.out.votes u hu, Vts.sum _ _ hvV u hu⟩)
          rw [List.length_append]
          omega
        have HX4 : Hid (res = (xs9 ++ votesB vs) ++ (numsB [bs.length] ++ bs)) := by show res = _; rw [HX3.out]; simp only [List.append_assoc]
        clear HX3 hn9
        generalize xs9 ++ votesB vs = xj at *
        have hrj := HEQ.out.trans HR9.out
        have e23 := cell_of_row _ _ 23 _ _ (0, 0) hrj
        simp only [List.getElem?_toArray, List.getElem?_cons_succ, List.getElem?_cons_zero] at e23
        have HRJ := Lib.hid hrj
        clear HEQ HR9 hrj
        go_wp2_with fail
        clear e23
        have hbl := below1' wr (.cells #[.int .i64 (bs.length : Int)] 3)
        have hat : At (wr.alloc (.cells #[.int .i64 (bs.length : Int)] 3)) (some ⟨wr.heap.size, 0, none⟩) (ints (natsV [bs.length])) := at_new wr #[.int .i64 (bs.length : Int)] 3 (0, 0)
        have hltj := hW.lt
        have hvb : bs.length ≤ 2000 := HOK.out.blen
        refine (nums_calls (ns := [bs.length]) (hW.keep hbl) hat rfl (fun _ b off he => by
          injection he with he
          injection he with he1 he2
          subst he1
          exact ⟨by omega, hW.addr (.inr (Nat.le_refl _))⟩) (fun x hx => by rw [List.mem_singleton] at hx; subst hx; omega) (by show _ + 9 * 1 ≤ _; omega)).mono ?_
        rintro e1 w14 ⟨rfl, A14, c14, hW14, hC14⟩
        have hb14 : Below pw wr w14 := (hbl.mono (by omega)).trans ((hW.keep hbl).chg hC14)
        have hr14 := (hb14.block w.heap.size hpw).trans HRJ.out
        have hB14 := hB.trans (hb14.mono (by omega))
        have hn14 : (xj ++ numsB [bs.length]).length ≤ 2800100 := by
          have := numsB_len (ns := [bs.length]) (fun x hx => by rw [List.mem_singleton] at hx; subst hx; omega)
          rw [List.length_append]
          simp only [List.length_cons, List.length_nil] at this
          omega
        have HX5 : Hid (res = (xj ++ numsB [bs.length]) ++ bs) := by show res = _; rw [HX4.out]; simp only [List.append_assoc]
        clear hbl hat hC14 hb14 HRJ hB hW HX4 hnj hltj
        generalize xj ++ numsB [bs.length] = x14 at *
        have e23 := cell_of_row _ _ 23 _ _ (0, 0) hr14
        simp only [List.getElem?_toArray, List.getElem?_cons_succ, List.getElem?_cons_zero] at e23
        have hp14 := cell_of_row _ _ 0 _ _ (0, 0) hW14.hd
        have hf14 := frozen_of_row _ _ 0 _ _ hW14.hd
        simp only [List.getElem?_toArray, List.getElem?_cons_zero] at hp14
        have hat := HKw.out.bs.below hB14
        have hbnil := HKw.out.bnil
        simp only at hat
        have hsz14 : pw + 1 ≤ w14.heap.size := hW14.lt
        clear hr14
        go_wp2_with (refine app_bytes rfl (.tmp 70) (.tmp 72) rfl (pw + 1) (v := .slice A14 x14.length c14) rfl hW14.own rfl (news := bs) rfl hat hbnil (by omega) hsz14 ?_; intro A16 c16 w16 ho16 hb16 hg16 hcap16; have hh16 := (hb16.block pw (by omega)).trans hW14.hd; have hp16 := cell_of_row _ _ 0 _ _ (0, 0) hh16; have hf16 := frozen_of_row _ _ 0 _ _ hh16; simp only [List.getElem?_toArray, List.getElem?_cons_zero] at hp16)
        go_ret2
        have hls : (x14 ++ bs).length = x14.length + bs.length := by simp
        rw [HX5.out]
        refine ⟨A16, c16, by rw [hls]; rfl, ?_, (hB14.trans (hb16.mono (by omega))).setCell (by show w.heap.size ≤ pw; omega) _⟩
        rw [hls]
        exact own_lower (ownsRow_setCell_below ho16 (show pw < pw + 1 by omega) _) (by omega)
end Go.Proofs.Ytfcacplecapgfaa
