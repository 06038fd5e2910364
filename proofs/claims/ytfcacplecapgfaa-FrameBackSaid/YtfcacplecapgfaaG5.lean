/- Contract: amphoraref05.MayMsg. -/
import Derived.Test.YtfcacplecapgfaaG4
namespace Go.Proofs.Ytfcacplecapgfaa
open Go.RowKit
set_option linter.unusedVariables false
set_option linter.unusedSimpArgs false

/-- A message may be, part by part. -/
structure OkM (m : Mg) : Prop where
  kind : 1 ≤ m.h.kind ∧ m.h.kind ≤ 15
  frm : 0 ≤ m.h.frm ∧ m.h.frm ≤ 15
  to : 0 ≤ m.h.to ∧ m.h.to ≤ 15
  ballot : 0 ≤ m.h.ballot ∧ m.h.ballot ≤ 1152921504606846976
  slot : 0 ≤ m.h.slot ∧ m.h.slot ≤ 1152921504606846976
  blob : 0 ≤ m.h.blob ∧ m.h.blob ≤ 1152921504606846976
  index : 0 ≤ m.h.index ∧ m.h.index ≤ 1152921504606846976
  epoch : 0 ≤ m.h.epoch ∧ m.h.epoch ≤ 1152921504606846976
  id : 0 ≤ m.h.id ∧ m.h.id ≤ 1152921504606846976
  cmd : mayC m.h.cmd m.cn = true
  vlen : m.vs.length ≤ 1000
  votes : ∀ v, v ∈ m.vs → mayV v = true
  blen : m.bs.length ≤ 2000
theorem mayM_ok {m : Mg} : mayM m = true ↔ OkM m := by
  unfold mayM
  simp only [Bool.and_eq_true, Bool.not_eq_true', wideB_false, decide_eq_true_eq, List.any_eq_false, Bool.not_eq_true, Bool.not_eq_false']
  constructor
  · rintro ⟨⟨⟨⟨⟨⟨⟨h1, h2⟩, h3⟩, h4⟩, h5⟩, h6⟩, h7⟩, h8⟩
    exact ⟨⟨h1, h2⟩, h3 _ (by simp), h3 _ (by simp), h4 _ (by simp), h4 _ (by simp), h4 _ (by simp), h4 _ (by simp), h4 _ (by simp), h4 _ (by simp), h5, h6, fun v hv => by simpa using h7 v hv, h8⟩
  · intro h
    refine ⟨⟨⟨⟨⟨⟨⟨h.kind.1, h.kind.2⟩, ?_⟩, ?_⟩, h.cmd⟩, h.vlen⟩, fun v hv => by simpa using h.votes v hv⟩, h.blen⟩
    · intro x hx
      simp only [List.mem_cons, List.not_mem_nil, or_false] at hx
      have h1 := h.frm; have h2 := h.to
      rcases hx with rfl | rfl <;> assumption
    · intro x hx
      simp only [List.mem_cons, List.not_mem_nil, or_false] at hx
      have h1 := h.ballot; have h2 := h.slot; have h3 := h.blob; have h4 := h.index; have h5 := h.epoch; have h6 := h.id
      rcases hx with rfl | rfl | rfl | rfl | rfl | rfl <;> assumption
theorem not_mayM {m : Mg} (h : ¬ OkM m) : false = mayM m := by
  cases hm : mayM m with
  | false => rfl
  | true => exact absurd (mayM_ok.1 hm) h
theorem is_mayM {m : Mg} (h : OkM m) : true = mayM m := (mayM_ok.2 h).symm
theorem mayV_ok {v : Vt} : mayV v = true ↔ fineB v.1 = true ∧ fineB v.2.1 = true ∧ mayC v.2.2.1 v.2.2.2 = true := by
  unfold mayV
  simp only [Bool.and_eq_true, Bool.not_eq_true', wideB_false, fineB_true]
  constructor
  · rintro ⟨h1, h2⟩
    exact ⟨h1 _ (by simp), h1 _ (by simp), h2⟩
  · rintro ⟨h1, h2, h3⟩
    refine ⟨fun x hx => ?_, h3⟩
    simp only [List.mem_cons, List.not_mem_nil, or_false] at hx
    rcases hx with rfl | rfl <;> assumption

set_option maxHeartbeats 8000000 in
set_option maxRecDepth 100000 in
theorem rmayMsg_calls {w : World} {m : Mg} {A V B : Option Addr} {d e f : Nat} (h : MgAt w A d V B f m) :
    Calls Try.prog 22 #[.agg #[.int .i64 m.h.kind, .int .i64 m.h.frm, .int .i64 m.h.to, .int .i64 m.h.ballot, .int .i64 m.h.slot, .int .i64 m.h.blob, .int .i64 m.h.index, .int .i64 m.h.epoch, .int .i64 m.h.id, .bool m.h.ok, .int .i64 m.h.cmd.id, .int .i64 m.h.cmd.kind, .string m.h.cmd.key, .int .i64 m.h.cmd.blob, .int .i64 m.h.cmd.other, .int .i64 m.h.cmd.index, .int .i64 m.h.cmd.node, .int .i64 m.h.cmd.size, .int .u32 m.h.cmd.sum, .int .i64 m.h.cmd.k, .int .i64 m.h.cmd.m, .slice A m.cn.length d, .slice V m.vs.length e, .slice B m.bs.length f]] w (RetV w (.bool (mayM m))) := by
  have HNM : Hid (¬ OkM m → false = mayM m) := not_mayM
  have HIM : Hid (OkM m → true = mayM m) := is_mayM
  generalize mayM m = r at *
  obtain ⟨mh, cn, vs, bs⟩ := m
  simp only
  obtain ⟨wb, hwb, hBb, hrb, hzb⟩ := any_box w #[.int .i64 mh.kind, .int .i64 mh.frm, .int .i64 mh.to, .int .i64 mh.ballot, .int .i64 mh.slot, .int .i64 mh.blob, .int .i64 mh.index, .int .i64 mh.epoch, .int .i64 mh.id, .bool mh.ok, .int .i64 mh.cmd.id, .int .i64 mh.cmd.kind, .string mh.cmd.key, .int .i64 mh.cmd.blob, .int .i64 mh.cmd.other, .int .i64 mh.cmd.index, .int .i64 mh.cmd.node, .int .i64 mh.cmd.size, .int .u32 mh.cmd.sum, .int .i64 mh.cmd.k, .int .i64 mh.cmd.m, .slice A cn.length d, .slice V vs.length e, .slice B bs.length f] 40
  have HW := Lib.hid hwb
  have he := mcells_of hrb
  obtain ⟨e0, e1, e2, e3, e4, e5, e6, e7, e8, e9, e10, e11, e12, e13, e14, e15, e16, e17, e18, e19, e20, e21, e22, e23⟩ := he
  have HK := Lib.hid (h.below hBb)
  have hmax1 : cn.length * 8 ≤ 140737488351232 := h.cmax
  have hmax2 : vs.length ≤ 140737488351232 := h.vmax
  rw [hwb] at e0 e1 e2 e3 e4 e5 e6 e7 e8 e9 e10 e11 e12 e13 e14 e15 e16 e17 e18 e19 e20 e21 e22 e23
  have HX := Lib.hid hrb
  clear hwb hrb h
  go_enter Try.func22, Try.ntmps22
  go_wp2_with fail
  have hwb := HW.out
  rw [← hwb]
  clear hwb HW e0 e1 e2 e3 e4 e5 e6 e7 e8 e9 e10 e11 e12 e13 e14 e15 e16 e17 e18 e19 e20 e21 e22 e23
  have hbl := below1' wb (.cells #[.int .i64 mh.ballot, .int .i64 mh.slot, .int .i64 mh.blob, .int .i64 mh.index, .int .i64 mh.epoch, .int .i64 mh.id] 3)
  have hat : At (wb.alloc (.cells #[.int .i64 mh.ballot, .int .i64 mh.slot, .int .i64 mh.blob, .int .i64 mh.index, .int .i64 mh.epoch, .int .i64 mh.id] 3)) (some ⟨w.heap.size + 1, 0, none⟩) (ints [mh.ballot, mh.slot, mh.blob, mh.index, mh.epoch, mh.id]) := by
    have := at_new wb #[.int .i64 mh.ballot, .int .i64 mh.slot, .int .i64 mh.blob, .int .i64 mh.index, .int .i64 mh.epoch, .int .i64 mh.id] 3 (0, 0)
    rw [hzb] at this
    exact this
  have hr1 := (hbl.block w.heap.size (by omega)).trans HX.out
  have hB1 := hBb.trans (hbl.mono hBb.size)
  have HK1 := Lib.hid (HK.out.below hbl)
  have hl1 : w.heap.size < (wb.alloc (.cells #[.int .i64 mh.ballot, .int .i64 mh.slot, .int .i64 mh.blob, .int .i64 mh.index, .int .i64 mh.epoch, .int .i64 mh.id] 3)).heap.size := by simp; omega
  generalize wb.alloc (.cells #[.int .i64 mh.ballot, .int .i64 mh.slot, .int .i64 mh.blob, .int .i64 mh.index, .int .i64 mh.epoch, .int .i64 mh.id] 3) = w1 at *
  clear hbl HX HK
  have HR1 := Lib.hid hr1
  have he := mcells_of hr1
  obtain ⟨e0, e1, e2, e3, e4, e5, e6, e7, e8, e9, e10, e11, e12, e13, e14, e15, e16, e17, e18, e19, e20, e21, e22, e23⟩ := he
  clear hr1
  go_loop [21] (fun s => ∃ t : Nat, t ≤ 6 ∧ s = .int .i64 ((t : Nat) : Int) ∧ Hid (∀ (i : Nat) x, i < t → [mh.ballot, mh.slot, mh.blob, mh.index, mh.epoch, mh.id][i]? = some x → 0 ≤ x ∧ x ≤ 1152921504606846976)) (fun s => 6 - (intOf s).toNat)
  case atStart => exact ⟨0, by omega, rfl, fun i x hi => by omega⟩
  case round =>
    obtain ⟨t, ht, rfl, HALL⟩ := hrel
    by_cases ht5 : t < 6
    · have hti : (t : Int) < 6 := by omega
      obtain ⟨b, off, hbo, hcx⟩ := hat.int (k := t) ht5
      injection hbo with hbo
      injection hbo with hb1 hb2
      subst hb1 hb2
      rw [Nat.zero_add] at hcx
      have HX := Lib.hid (List.getElem?_eq_getElem (l := [mh.ballot, mh.slot, mh.blob, mh.index, mh.epoch, mh.id]) (i := t) ht5)
      generalize [mh.ballot, mh.slot, mh.blob, mh.index, mh.epoch, mh.id][t] = x at *
      clear e0 e1 e2 e3 e4 e5 e6 e7 e8 e9 e10 e11 e12 e13 e14 e15 e16 e17 e18 e19 e20 e21 e22 e23
      go_wp2_with fail
      refine (fine_calls x).mono ?_
      rintro e w' ⟨rfl, rfl⟩
      cases hfb : fineB x with
      | false =>
        have HFB := Lib.hid hfb
        clear hfb
        go_wp2_with fail
        go_ret
        refine ⟨ret_bool (HNM.out fun h => ?_), hB1⟩
        have hm := List.mem_of_getElem? HX.out
        have hx : fineB x = true := by
          rw [fineB_true]
          simp only [List.mem_cons, List.not_mem_nil, or_false] at hm
          have h1 := h.ballot; have h2 := h.slot; have h3 := h.blob; have h4 := h.index; have h5 := h.epoch; have h6 := h.id
          rcases hm with rfl | rfl | rfl | rfl | rfl | rfl <;> assumption
        rw [HFB.out] at hx
        cases hx
      | true =>
        have HFB := Lib.hid (fineB_true.1 hfb)
        clear hfb
        go_wp2_with fail
        refine ⟨⟨t + 1, by omega, by go_num, fun i y hi hy => ?_⟩, by simp [intOf]; omega⟩
        by_cases hit : i < t
        · exact HALL.out i y hit hy
        · obtain rfl : i = t := by omega
          rw [HX.out] at hy
          cases hy
          exact HFB.out
    · obtain rfl : t = 6 := by omega
      have HF6 : Hid ((0 ≤ mh.ballot ∧ mh.ballot ≤ 1152921504606846976) ∧ (0 ≤ mh.slot ∧ mh.slot ≤ 1152921504606846976) ∧ (0 ≤ mh.blob ∧ mh.blob ≤ 1152921504606846976) ∧ (0 ≤ mh.index ∧ mh.index ≤ 1152921504606846976) ∧ (0 ≤ mh.epoch ∧ mh.epoch ≤ 1152921504606846976) ∧ (0 ≤ mh.id ∧ mh.id ≤ 1152921504606846976)) :=
        ⟨HALL.out 0 _ (by omega) rfl, HALL.out 1 _ (by omega) rfl, HALL.out 2 _ (by omega) rfl, HALL.out 3 _ (by omega) rfl, HALL.out 4 _ (by omega) rfl, HALL.out 5 _ (by omega) rfl⟩
      clear hat
      go_wp2_with fail
      clear e0 e1 e2 e3 e4 e5 e6 e7 e8 e9 e10 e11 e12 e13 e14 e15 e16 e17 e18 e19 e20 e21 e22 e23
      obtain ⟨us, hvA, hvV⟩ := HK1.out.vts
      have HLV := Lib.hid (Vts.length _ _ hvV)
      go_loopw [32] (fun s wr => ∃ j : Nat, j ≤ vs.length ∧ s = .int .i64 ((j : Nat) : Int) ∧ Below w1.heap.size w1 wr ∧ Hid (∀ (i : Nat) v, i < j → vs[i]? = some v → mayV v = true)) (fun s _ => vs.length - (intOf s).toNat)
      case atStart => exact ⟨0, by omega, rfl, Below.refl _ _, fun i v hi => by omega⟩
      case round =>
        obtain ⟨j, hj, rfl, hBr, HNO⟩ := hrel
        by_cases hjv : j < vs.length
        · obtain ⟨v, hv⟩ : ∃ v, vs[j]? = some v := ⟨_, List.getElem?_eq_getElem hjv⟩
          obtain ⟨b, off, rfl⟩ := some_of_at hvA (by rw [HLV.out]; show 0 < vs.length * 14; omega)
          obtain ⟨cs, ⟨nA, nd, rfl, hn1, hn2, hn3, hn4⟩, hat⟩ := Vts.at' _ _ j v hvV hvA hv
          have hat1 : At wr (some ⟨b, off + j * 14, none⟩) _ := hat.below hBr
          have hji : (j : Int) < (vs.length : Int) := by omega
          have hj0 : (0 : Int) ≤ (j : Int) := by omega
          have hmi : (vs.length : Int) ≤ 140737488351232 := by omega
          have HV := Lib.hid hv
          obtain ⟨vs0, vb0, vc0, vl0⟩ := v
          simp only at hat1 hn1 hn3
          have hbx := below1' wr (.cells #[.int .i64 vs0, .int .i64 vb0, .int .i64 vc0.id, .int .i64 vc0.kind, .string vc0.key, .int .i64 vc0.blob, .int .i64 vc0.other, .int .i64 vc0.index, .int .i64 vc0.node, .int .i64 vc0.size, .int .u32 vc0.sum, .int .i64 vc0.k, .int .i64 vc0.m, .slice nA vl0.length nd] 74)
          have hgx : (wr.alloc (.cells #[.int .i64 vs0, .int .i64 vb0, .int .i64 vc0.id, .int .i64 vc0.kind, .string vc0.key, .int .i64 vc0.blob, .int .i64 vc0.other, .int .i64 vc0.index, .int .i64 vc0.node, .int .i64 vc0.size, .int .u32 vc0.sum, .int .i64 vc0.k, .int .i64 vc0.m, .slice nA vl0.length nd] 74)).heap[wr.heap.size]? = some (.cells #[.int .i64 vs0, .int .i64 vb0, .int .i64 vc0.id, .int .i64 vc0.kind, .string vc0.key, .int .i64 vc0.blob, .int .i64 vc0.other, .int .i64 vc0.index, .int .i64 vc0.node, .int .i64 vc0.size, .int .u32 vc0.sum, .int .i64 vc0.k, .int .i64 vc0.m, .slice nA vl0.length nd] 74 (0, 0)) := heap_alloc_new wr _
          have hbF := hBr.trans (hbx.mono hBr.size)
          have HMC := Lib.hid (rmayCmd_calls (w := wr.alloc (.cells #[.int .i64 vs0, .int .i64 vb0, .int .i64 vc0.id, .int .i64 vc0.kind, .string vc0.key, .int .i64 vc0.blob, .int .i64 vc0.other, .int .i64 vc0.index, .int .i64 vc0.node, .int .i64 vc0.size, .int .u32 vc0.sum, .int .i64 vc0.k, .int .i64 vc0.m, .slice nA vl0.length nd] 74)) vc0 (d := nd) (hn1.below hbF) rfl (by omega))
          have HMV := Lib.hid (mayV_ok (v := (vs0, vb0, vc0, vl0)))
          simp only at HMV
          have HGX := Lib.hid hgx
          have HBF := Lib.hid hbF
          clear hv hat hn1 hn2 hn4 hbx hgx hbF HR1 HK1
          generalize mayC vc0 vl0 = mc at *
          cases hf1 : fineB vs0 with
          | false =>
            have hno : Hid (¬ mayV (vs0, vb0, vc0, vl0) = true) := fun hh => by have := (HMV.out.1 hh).1; rw [hf1] at this; cases this
            have HC1 := fine_calls (w := wr.alloc (.cells #[.int .i64 vs0, .int .i64 vb0, .int .i64 vc0.id, .int .i64 vc0.kind, .string vc0.key, .int .i64 vc0.blob, .int .i64 vc0.other, .int .i64 vc0.index, .int .i64 vc0.node, .int .i64 vc0.size, .int .u32 vc0.sum, .int .i64 vc0.k, .int .i64 vc0.m, .slice nA vl0.length nd] 74)) vs0
            rw [hf1] at HC1
            have HC1 := Lib.hid HC1
            clear hf1
            go_wp2_with (refine wpList_load_at rfl 74 (.tmp 34) rfl rfl hat1 Try.underlying74 rfl (by kernel_rfl) ?_)
            refine HC1.out.mono ?_
            rintro e w' ⟨rfl, rfl⟩
            go_wp2_with fail
            go_ret
            exact ⟨ret_bool (HNM.out fun h => hno.out (h.votes _ (List.mem_of_getElem? HV.out))), hB1.trans (HBF.out.mono hB1.size)⟩
          | true =>
            have HC1 := fine_calls (w := wr.alloc (.cells #[.int .i64 vs0, .int .i64 vb0, .int .i64 vc0.id, .int .i64 vc0.kind, .string vc0.key, .int .i64 vc0.blob, .int .i64 vc0.other, .int .i64 vc0.index, .int .i64 vc0.node, .int .i64 vc0.size, .int .u32 vc0.sum, .int .i64 vc0.k, .int .i64 vc0.m, .slice nA vl0.length nd] 74)) vs0
            rw [hf1] at HC1
            have HC1 := Lib.hid HC1
            have HF1 := Lib.hid hf1
            clear hf1
            go_wp2_with (refine wpList_load_at rfl 74 (.tmp 34) rfl rfl hat1 Try.underlying74 rfl (by kernel_rfl) ?_)
            refine HC1.out.mono ?_
            rintro e w' ⟨rfl, rfl⟩
            clear HC1
            cases hf2 : fineB vb0 with
            | false =>
              have hno : Hid (¬ mayV (vs0, vb0, vc0, vl0) = true) := fun hh => by have := (HMV.out.1 hh).2.1; rw [hf2] at this; cases this
              have HC1 := fine_calls (w := wr.alloc (.cells #[.int .i64 vs0, .int .i64 vb0, .int .i64 vc0.id, .int .i64 vc0.kind, .string vc0.key, .int .i64 vc0.blob, .int .i64 vc0.other, .int .i64 vc0.index, .int .i64 vc0.node, .int .i64 vc0.size, .int .u32 vc0.sum, .int .i64 vc0.k, .int .i64 vc0.m, .slice nA vl0.length nd] 74)) vb0
              rw [hf2] at HC1
              have HC1 := Lib.hid HC1
              clear hf2
              go_wp2_with fail
              refine HC1.out.mono ?_
              rintro e w' ⟨rfl, rfl⟩
              go_wp2_with fail
              go_ret
              exact ⟨ret_bool (HNM.out fun h => hno.out (h.votes _ (List.mem_of_getElem? HV.out))), hB1.trans (HBF.out.mono hB1.size)⟩
            | true =>
              have HC1 := fine_calls (w := wr.alloc (.cells #[.int .i64 vs0, .int .i64 vb0, .int .i64 vc0.id, .int .i64 vc0.kind, .string vc0.key, .int .i64 vc0.blob, .int .i64 vc0.other, .int .i64 vc0.index, .int .i64 vc0.node, .int .i64 vc0.size, .int .u32 vc0.sum, .int .i64 vc0.k, .int .i64 vc0.m, .slice nA vl0.length nd] 74)) vb0
              rw [hf2] at HC1
              have HC1 := Lib.hid HC1
              have HF2 := Lib.hid hf2
              clear hf2
              go_wp2_with fail
              refine HC1.out.mono ?_
              rintro e w' ⟨rfl, rfl⟩
              clear HC1
              go_wp2_with fail
              refine HMC.out.mono ?_
              rintro e w9 ⟨rfl, hb9⟩
              have hbG := HBF.out.trans (hb9.mono HBF.out.size)
              clear hb9 HBF HMC HGX
              cases mc with
              | false =>
                have hno : Hid (¬ mayV (vs0, vb0, vc0, vl0) = true) := fun hh => by have := (HMV.out.1 hh).2.2; cases this
                go_wp2_with fail
                go_ret
                exact ⟨ret_bool (HNM.out fun h => hno.out (h.votes _ (List.mem_of_getElem? HV.out))), hB1.trans (hbG.mono hB1.size)⟩
              | true =>
                have hyes : Hid (mayV (vs0, vb0, vc0, vl0) = true) := HMV.out.2 ⟨HF1.out, HF2.out, rfl⟩
                go_wp2_with fail
                refine ⟨⟨j + 1, by omega, by go_num, hbG, ?_⟩, by simp [intOf]; omega⟩
                intro i u hi hu
                by_cases hij : i < j
                · exact HNO.out i u hij hu
                · obtain rfl : i = j := by omega
                  rw [HV.out] at hu
                  injection hu with hu
                  rw [← hu]; exact hyes.out
        · have HALLV : Hid (∀ v, v ∈ vs → mayV v = true) := by
            show ∀ v, v ∈ vs → mayV v = true
            intro v hv
            obtain ⟨i, hi⟩ := List.getElem?_of_mem hv
            have hlt : i < vs.length := (List.getElem?_eq_some_iff.1 hi).1
            exact HNO.out i v (by omega) hi
          have hB2 := hB1.trans (hBr.mono hB1.size)
          have hr2 := (hBr.block w.heap.size hl1).trans HR1.out
          have HMC := Lib.hid (rmayCmd_calls (w := wr) mh.cmd (d := d) (HK1.out.below hBr).cn rfl (by simp only; omega))
          simp only at HMC
          have he := mcells_of hr2
          obtain ⟨e0, e1, e2, e3, e4, e5, e6, e7, e8, e9, e10, e11, e12, e13, e14, e15, e16, e17, e18, e19, e20, e21, e22, e23⟩ := he
          have hvl : ((vs.length : Int) ≤ 1000) ∨ ¬ ((vs.length : Int) ≤ 1000) := by omega
          have hbl : ((bs.length : Int) ≤ 2000) ∨ ¬ ((bs.length : Int) ≤ 2000) := by omega
          have HR2 := Lib.hid hr2
          have HSZ := Lib.hid hBr.size
          clear hBr HR1 HK1 hvA hvV HLV HNO hr2 HALL
          have hcase : ¬ (1 ≤ mh.kind) ∨ (1 ≤ mh.kind ∧ ¬ (mh.kind ≤ 15)) ∨ (1 ≤ mh.kind ∧ mh.kind ≤ 15 ∧ ¬ (0 ≤ mh.frm)) ∨ (1 ≤ mh.kind ∧ mh.kind ≤ 15 ∧ 0 ≤ mh.frm ∧ ¬ (mh.frm ≤ 15)) ∨
            (1 ≤ mh.kind ∧ mh.kind ≤ 15 ∧ 0 ≤ mh.frm ∧ mh.frm ≤ 15 ∧ ¬ (0 ≤ mh.to)) ∨ (1 ≤ mh.kind ∧ mh.kind ≤ 15 ∧ 0 ≤ mh.frm ∧ mh.frm ≤ 15 ∧ 0 ≤ mh.to ∧ ¬ (mh.to ≤ 15)) ∨
            (1 ≤ mh.kind ∧ mh.kind ≤ 15 ∧ 0 ≤ mh.frm ∧ mh.frm ≤ 15 ∧ 0 ≤ mh.to ∧ mh.to ≤ 15) := by omega
          rcases hcase with c1 | ⟨c1, c2⟩ | ⟨c1, c2, c3⟩ | ⟨c1, c2, c3, c4⟩ | ⟨c1, c2, c3, c4, c5⟩ | ⟨c1, c2, c3, c4, c5, c6⟩ | ⟨c1, c2, c3, c4, c5, c6⟩
          case inr.inr.inr.inr.inr.inr =>
            go_wp2_with fail
            clear e0 e1 e2 e3 e4 e5 e6 e7 e8 e9 e10 e11 e12 e13 e14 e15 e16 e17 e18 e19 e20 e21 e22 e23
            refine HMC.out.mono ?_
            rintro e w9 ⟨rfl, hb9⟩
            have hB9 := hB2.trans (hb9.mono hB2.size)
            have hr9 := (hb9.block w.heap.size (Nat.lt_of_lt_of_le hl1 HSZ.out)).trans HR2.out
            clear HMC hb9 HR2
            generalize hmm : mayC mh.cmd cn = mc at *
            have HMM := Lib.hid hmm
            clear hmm
            cases mc with
            | false =>
              clear hvl hbl
              go_wp2_with fail
              go_ret
              exact ⟨ret_bool (HNM.out fun h => by have h1 := h.cmd; simp only at h1; rw [HMM.out] at h1; cases h1), hB9⟩
            | true =>
              have he := mcells_of hr9
              obtain ⟨e0, e1, e2, e3, e4, e5, e6, e7, e8, e9, e10, e11, e12, e13, e14, e15, e16, e17, e18, e19, e20, e21, e22, e23⟩ := he
              clear hr9
              rcases hvl with hvl | hvl
              · rcases hbl with hbl | hbl
                · go_wp2_with fail
                  go_ret
                  refine ⟨ret_bool (HIM.out ?_), hB9⟩
                  have h5 := HF6.out
                  exact ⟨⟨c1, c2⟩, ⟨c3, c4⟩, ⟨c5, c6⟩, h5.1, h5.2.1, h5.2.2.1, h5.2.2.2.1, h5.2.2.2.2.1, h5.2.2.2.2.2, HMM.out, by simp only; omega, HALLV.out, by simp only; omega⟩
                · go_wp2_with fail
                  go_ret
                  exact ⟨ret_bool ((decide_eq_false (by omega)).trans (HNM.out fun h => by have h1 := h.blen; simp only at h1; omega)), hB9⟩
              · clear hbl
                go_wp2_with fail
                go_ret
                exact ⟨ret_bool (HNM.out fun h => by have h1 := h.vlen; simp only at h1; omega), hB9⟩
          all_goals
            clear hvl hbl HMC
            go_wp2_with fail
            go_ret
            exact ⟨ret_bool (HNM.out fun h => by have h1 := h.kind; have h2 := h.frm; have h3 := h.to; simp only at h1 h2 h3; omega), hB2⟩
end Go.Proofs.Ytfcacplecapgfaa
