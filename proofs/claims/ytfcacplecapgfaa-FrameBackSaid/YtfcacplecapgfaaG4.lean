/- Contract: frame.mayMsg. -/
import Derived.Test.YtfcacplecapgfaaG3
namespace Go.Proofs.Ytfcacplecapgfaa
open Go.RowKit
set_option linter.unusedVariables false
set_option linter.unusedSimpArgs false

/-- A message may be. -/
def mayM (m : Mg) : Bool := decide (1 ≤ m.h.kind) && decide (m.h.kind ≤ 15) && !wideB 15 [m.h.frm, m.h.to] && !wideB 1152921504606846976 [m.h.ballot, m.h.slot, m.h.blob, m.h.index, m.h.epoch, m.h.id] &&
  mayC m.h.cmd m.cn && decide (m.vs.length ≤ 1000) && !m.vs.any (fun v => !mayV v) && decide (m.bs.length ≤ 2000)

set_option maxHeartbeats 8000000 in
set_option maxRecDepth 100000 in
theorem mayMsg_calls {w : World} {m : Mg} {A V B : Option Addr} {d e f : Nat} (h : MgAt w A d V B f m) :
    Calls Try.prog 41 #[.agg #[.int .i64 m.h.kind, .int .i64 m.h.frm, .int .i64 m.h.to, .int .i64 m.h.ballot, .int .i64 m.h.slot, .int .i64 m.h.blob, .int .i64 m.h.index, .int .i64 m.h.epoch, .int .i64 m.h.id, .bool m.h.ok, .int .i64 m.h.cmd.id, .int .i64 m.h.cmd.kind, .string m.h.cmd.key, .int .i64 m.h.cmd.blob, .int .i64 m.h.cmd.other, .int .i64 m.h.cmd.index, .int .i64 m.h.cmd.node, .int .i64 m.h.cmd.size, .int .u32 m.h.cmd.sum, .int .i64 m.h.cmd.k, .int .i64 m.h.cmd.m, .slice A m.cn.length d, .slice V m.vs.length e, .slice B m.bs.length f]] w (RetV w (.bool (mayM m))) := by
  obtain ⟨mh, cn, vs, bs⟩ := m
  simp only
  obtain ⟨wb, hwb, hBb, hrb, hzb⟩ := any_box w #[.int .i64 mh.kind, .int .i64 mh.frm, .int .i64 mh.to, .int .i64 mh.ballot, .int .i64 mh.slot, .int .i64 mh.blob, .int .i64 mh.index, .int .i64 mh.epoch, .int .i64 mh.id, .bool mh.ok, .int .i64 mh.cmd.id, .int .i64 mh.cmd.kind, .string mh.cmd.key, .int .i64 mh.cmd.blob, .int .i64 mh.cmd.other, .int .i64 mh.cmd.index, .int .i64 mh.cmd.node, .int .i64 mh.cmd.size, .int .u32 mh.cmd.sum, .int .i64 mh.cmd.k, .int .i64 mh.cmd.m, .slice A cn.length d, .slice V vs.length e, .slice B bs.length f] 40
  have HW := Lib.hid hwb
  have HR : Hid (mayM ⟨mh, cn, vs, bs⟩ = (decide (1 ≤ mh.kind) && decide (mh.kind ≤ 15) && !wideB 15 [mh.frm, mh.to] && !wideB 1152921504606846976 [mh.ballot, mh.slot, mh.blob, mh.index, mh.epoch, mh.id] &&
    mayC mh.cmd cn && decide (vs.length ≤ 1000) && !vs.any (fun v => !mayV v) && decide (bs.length ≤ 2000))) := rfl
  generalize mayM ⟨mh, cn, vs, bs⟩ = r at *
  have he := mcells_of hrb
  obtain ⟨e0, e1, e2, e3, e4, e5, e6, e7, e8, e9, e10, e11, e12, e13, e14, e15, e16, e17, e18, e19, e20, e21, e22, e23⟩ := he
  have HK := Lib.hid (h.below hBb)
  have HX := Lib.hid hrb
  have hlt : w.heap.size < wb.heap.size := by omega
  have hmax1 : cn.length * 8 ≤ 140737488351232 := h.cmax
  have hmax2 : vs.length ≤ 140737488351232 := h.vmax
  have hv1000 : decide ((vs.length : Int) ≤ 1000) = decide (vs.length ≤ 1000) := by
    by_cases hh : vs.length ≤ 1000
    · rw [decide_eq_true hh, decide_eq_true (by omega)]
    · rw [decide_eq_false hh, decide_eq_false (by omega)]
  have hb2000 : decide ((bs.length : Int) ≤ 2000) = decide (bs.length ≤ 2000) := by
    by_cases hh : bs.length ≤ 2000
    · rw [decide_eq_true hh, decide_eq_true (by omega)]
    · rw [decide_eq_false hh, decide_eq_false (by omega)]
  generalize decide (vs.length ≤ 1000) = b1 at *
  generalize decide (bs.length ≤ 2000) = b2 at *
  clear h
  by_cases hk1 : 1 ≤ mh.kind
  rotate_left
  · rw [hwb] at e0 e1 e2 e3 e4 e5 e6 e7 e8 e9 e10 e11 e12 e13 e14 e15 e16 e17 e18 e19 e20 e21 e22 e23
    have hd : decide (1 ≤ mh.kind) = false := decide_eq_false hk1
    have HD := Lib.hid (show r = false by rw [HR.out, hd]; simp)
    clear hwb hrb HR
    go_enter Try.func41, Try.ntmps41
    go_wp2_with fail
    have hwb := HW.out
    rw [← hwb]
    go_ret
    exact ⟨ret_bool HD.out.symm, hBb⟩
  by_cases hk2 : mh.kind ≤ 15
  rotate_left
  · rw [hwb] at e0 e1 e2 e3 e4 e5 e6 e7 e8 e9 e10 e11 e12 e13 e14 e15 e16 e17 e18 e19 e20 e21 e22 e23
    have hd : decide (mh.kind ≤ 15) = false := decide_eq_false hk2
    have HD := Lib.hid (show r = false by rw [HR.out, hd]; simp)
    clear hwb hrb HR
    go_enter Try.func41, Try.ntmps41
    go_wp2_with fail
    have hwb := HW.out
    rw [← hwb]
    go_ret
    exact ⟨ret_bool HD.out.symm, hBb⟩
  rw [hwb] at e0 e1 e2 e3 e4 e5 e6 e7 e8 e9 e10 e11 e12 e13 e14 e15 e16 e17 e18 e19 e20 e21 e22 e23
  have HR2 := Lib.hid (show r = (!wideB 15 [mh.frm, mh.to] && !wideB 1152921504606846976 [mh.ballot, mh.slot, mh.blob, mh.index, mh.epoch, mh.id] && mayC mh.cmd cn && b1 && !vs.any (fun v => !mayV v) && b2) by rw [HR.out, decide_eq_true hk1, decide_eq_true hk2]; simp)
  clear hwb hrb HR
  go_enter Try.func41, Try.ntmps41
  go_wp2_with fail
  have hwb := HW.out
  rw [← hwb]
  clear hwb HW e0 e1 e2 e3 e4 e5 e6 e7 e8 e9 e10 e11 e12 e13 e14 e15 e16 e17 e18 e19 e20 e21 e22 e23
  have hat : At (wb.alloc (.cells #[.int .i64 mh.frm, .int .i64 mh.to] 3)) (some ⟨w.heap.size + 1, 0, none⟩) (ints [mh.frm, mh.to]) := by
    have := at_new wb #[.int .i64 mh.frm, .int .i64 mh.to] 3 (0, 0)
    rw [hzb] at this
    exact this
  refine (wide_calls (l := [mh.frm, mh.to]) hat rfl (by simp)).mono ?_
  clear hat
  rintro e w1 ⟨rfl, hb⟩
  have hq : Below wb.heap.size wb w1 := (below1' wb _).trans (hb.mono (by simp))
  have hB1 := hBb.trans (hq.mono hBb.size)
  have hr1 := (hq.block w.heap.size hlt).trans HX.out
  have HK1 := Lib.hid (HK.out.below hq)
  have hl1 := Nat.lt_of_lt_of_le hlt hq.size
  clear hb hq HX HK
  generalize wideB 15 [mh.frm, mh.to] = x1 at *
  cases x1 with
  | true =>
    go_wp2_with fail
    go_ret
    exact ⟨ret_bool (by rw [HR2.out]; simp), hB1⟩
  | false =>
    have he := mcells_of hr1
    obtain ⟨e0, e1, e2, e3, e4, e5, e6, e7, e8, e9, e10, e11, e12, e13, e14, e15, e16, e17, e18, e19, e20, e21, e22, e23⟩ := he
    go_wp2_with fail
    clear e0 e1 e2 e3 e4 e5 e6 e7 e8 e9 e10 e11 e12 e13 e14 e15 e16 e17 e18 e19 e20 e21 e22 e23
    refine (wide_calls (l := [mh.ballot, mh.slot, mh.blob, mh.index, mh.epoch, mh.id]) (at_new _ _ _ _) rfl (by simp)).mono ?_
    rintro e w2 ⟨rfl, hb⟩
    have hq : Below w1.heap.size w1 w2 := (below1' w1 _).trans (hb.mono (by simp))
    have hB2 := hB1.trans (hq.mono hB1.size)
    have hr2 := (hq.block w.heap.size hl1).trans hr1
    have HK2 := Lib.hid (HK1.out.below hq)
    have hl2 := Nat.lt_of_lt_of_le hl1 hq.size
    clear hb hq HK1 hr1
    generalize wideB 1152921504606846976 [mh.ballot, mh.slot, mh.blob, mh.index, mh.epoch, mh.id] = x2 at *
    cases x2 with
    | true =>
      go_wp2_with fail
      go_ret
      exact ⟨ret_bool (by rw [HR2.out]; simp), hB2⟩
    | false =>
      have he := mcells_of hr2
      obtain ⟨e0, e1, e2, e3, e4, e5, e6, e7, e8, e9, e10, e11, e12, e13, e14, e15, e16, e17, e18, e19, e20, e21, e22, e23⟩ := he
      have HN := Lib.hid (mayCmd_calls (w := w2) mh.cmd (d := d) HK2.out.cn rfl (by simp only; omega))
      go_wp2_with fail
      clear e0 e1 e2 e3 e4 e5 e6 e7 e8 e9 e10 e11 e12 e13 e14 e15 e16 e17 e18 e19 e20 e21 e22 e23
      refine HN.out.mono ?_
      rintro e w3 ⟨rfl, hq⟩
      have hB3 := hB2.trans (hq.mono hB2.size)
      have hr3 := (hq.block w.heap.size hl2).trans hr2
      have HK3 := Lib.hid (HK2.out.below hq)
      have hl3 := Nat.lt_of_lt_of_le hl2 hq.size
      clear hq HK2 hr2 HN
      simp only
      generalize mayC mh.cmd cn = x3 at *
      cases x3 with
      | false =>
        go_wp2_with fail
        go_ret
        exact ⟨ret_bool (by rw [HR2.out]; simp), hB3⟩
      | true =>
        have he := mcells_of hr3
        obtain ⟨e0, e1, e2, e3, e4, e5, e6, e7, e8, e9, e10, e11, e12, e13, e14, e15, e16, e17, e18, e19, e20, e21, e22, e23⟩ := he
        cases b1 with
        | false =>
          go_wp2_with fail
          go_ret
          exact ⟨ret_bool (by rw [HR2.out]; simp), hB3⟩
        | true =>
          have HN2 : Hid (Calls Try.prog 56 #[.slice V vs.length e, .func (.func 55) #[] #[]] w3 (RetV w3 (.bool (vs.any (fun v => !mayV v))))) := by
            obtain ⟨us, hv1, hv2⟩ := HK3.out.vts
            exact vhas_calls (c := e) hv1 hv2 HK3.out.vmax
          go_wp2_with fail
          clear e0 e1 e2 e3 e4 e5 e6 e7 e8 e9 e10 e11 e12 e13 e14 e15 e16 e17 e18 e19 e20 e21 e22 e23
          refine HN2.out.mono ?_
          rintro e w4 ⟨rfl, hq⟩
          have hB4 := hB3.trans (hq.mono hB3.size)
          have hr4 := (hq.block w.heap.size hl3).trans hr3
          clear hq HK3 hr3 HN2
          generalize vs.any (fun v => !mayV v) = x4 at *
          cases x4 with
          | true =>
            go_wp2_with fail
            go_ret
            exact ⟨ret_bool (by rw [HR2.out]; simp), hB4⟩
          | false =>
            have he := mcells_of hr4
            obtain ⟨e0, e1, e2, e3, e4, e5, e6, e7, e8, e9, e10, e11, e12, e13, e14, e15, e16, e17, e18, e19, e20, e21, e22, e23⟩ := he
            go_wp2_with fail
            go_ret
            exact ⟨ret_bool (by rw [HR2.out]; simp), hB4⟩
end Go.Proofs.Ytfcacplecapgfaa
