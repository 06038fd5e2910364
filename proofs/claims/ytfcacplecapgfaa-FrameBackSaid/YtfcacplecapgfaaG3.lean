/- Contracts: frame.mayMsg's closure, slices.IndexFunc and ContainsFunc of votes. -/
import Derived.Test.YtfcacplecapgfaaG2
namespace Go.Proofs.Ytfcacplecapgfaa
open Go.RowKit
set_option linter.unusedVariables false
set_option linter.unusedSimpArgs false

/-- A vote may be. -/
def mayV (v : Vt) : Bool := !wideB 1152921504606846976 [v.1, v.2.1] && mayC v.2.2.1 v.2.2.2
theorem any_box (w : World) (cs : Array Value) (T : TypeId) : ∃ wb, wb = w.alloc (.cells cs T) ∧ Below w.heap.size w wb ∧ wb.heap[w.heap.size]? = some (.cells cs T (0, 0)) ∧ wb.heap.size = w.heap.size + 1 :=
  ⟨_, rfl, below1' _ _, heap_alloc_new _ _, by simp⟩

set_option maxHeartbeats 2000000 in
set_option maxRecDepth 100000 in
theorem vbad_calls {w : World} {s b : Int} {c : Cm} {l : List Int} {A : Option Addr} {d : Nat} (hA : At w A (ints l)) (hmax : l.length ≤ 140737488355328) :
    Calls Try.prog 55 #[.agg #[.int .i64 s, .int .i64 b, .int .i64 c.id, .int .i64 c.kind, .string c.key, .int .i64 c.blob, .int .i64 c.other, .int .i64 c.index, .int .i64 c.node, .int .i64 c.size, .int .u32 c.sum, .int .i64 c.k, .int .i64 c.m, .slice A l.length d]] w (RetV w (.bool (!mayV (s, b, c, l)))) := by
  obtain ⟨wb, hwb, hB, hr, hz⟩ := any_box w #[.int .i64 s, .int .i64 b, .int .i64 c.id, .int .i64 c.kind, .string c.key, .int .i64 c.blob, .int .i64 c.other, .int .i64 c.index, .int .i64 c.node, .int .i64 c.size, .int .u32 c.sum, .int .i64 c.k, .int .i64 c.m, .slice A l.length d] 74
  have HW := Lib.hid hwb
  have HR : Hid ((!mayV (s, b, c, l)) = (wideB 1152921504606846976 [s, b] || !mayC c l)) := by
    show (!mayV (s, b, c, l)) = _
    unfold mayV
    simp
  generalize (!mayV (s, b, c, l)) = r at *
  have he := vcells_of hr
  obtain ⟨e0, e1, e2, e3, e4, e5, e6, e7, e8, e9, e10, e11, e12, e13⟩ := he
  rw [hwb] at e0 e1 e2 e3 e4 e5 e6 e7 e8 e9 e10 e11 e12 e13
  have HX := Lib.hid hr
  have HA := Lib.hid (hA.below hB)
  have hlt : w.heap.size < wb.heap.size := by omega
  clear hwb hr hA
  go_enter Try.func55, Try.ntmps55
  go_wp2_with fail
  have hwb := HW.out
  rw [← hwb]
  clear hwb HW e0 e1 e2 e3 e4 e5 e6 e7 e8 e9 e10 e11 e12 e13
  have hat : At (wb.alloc (.cells #[.int .i64 s, .int .i64 b] 3)) (some ⟨w.heap.size + 1, 0, none⟩) (ints [s, b]) := by
    have := at_new wb #[.int .i64 s, .int .i64 b] 3 (0, 0)
    rw [hz] at this
    exact this
  refine (wide_calls (l := [s, b]) hat rfl (by simp)).mono ?_
  clear hat
  rintro e w1 ⟨rfl, hb⟩
  have hq : Below wb.heap.size wb w1 := (below1' wb _).trans (hb.mono (by simp))
  have hB1 := hB.trans (hq.mono hB.size)
  have hr1 := (hq.block w.heap.size hlt).trans HX.out
  have hA1 := HA.out.below hq
  clear hb hq HX HA
  generalize wideB 1152921504606846976 [s, b] = x at *
  cases x with
  | true =>
    go_wp2_with fail
    go_ret
    exact ⟨ret_bool (by rw [HR.out]; simp), hB1⟩
  | false =>
    have he := vcells_of hr1
    obtain ⟨e0, e1, e2, e3, e4, e5, e6, e7, e8, e9, e10, e11, e12, e13⟩ := he
    have HM := Lib.hid (mayCmd_calls (w := w1) c (d := d) hA1 rfl hmax)
    clear hr1 hA1
    go_wp2_with fail
    refine HM.out.mono ?_
    rintro e w2 ⟨rfl, hb2⟩
    generalize mayC c l = y at *
    go_wp2_with fail
    go_ret
    exact ⟨ret_bool (by rw [HR.out]; simp), hB1.trans (hb2.mono hB1.size)⟩

set_option maxHeartbeats 2000000 in
set_option maxRecDepth 100000 in
theorem vidx_calls {w : World} {A : Option Addr} {c : Nat} {vs : List Value} {V : List Vt} (hA : At w A vs) (hV : Vts w vs V) (hmax : V.length ≤ 140737488351232) :
    Calls Try.prog 60 #[.slice A V.length c, .func (.func 55) #[] #[]] w fun e w' => ∃ r : Int, e = .returned (.int .i64 r) ∧ decide (0 ≤ r) = V.any (fun v => !mayV v) ∧ Below w.heap.size w w' := by
  have HLV := Lib.hid (Vts.length _ _ hV)
  go_enter Try.func60, Try.ntmps60
  go_wp2_with fail
  go_loopw [8] (fun s8 wr => ∃ j : Nat, j ≤ V.length ∧ s8 = .int .i64 ((j : Nat) : Int) ∧ Below w.heap.size w wr ∧ Hid (∀ (i : Nat) v, i < j → V[i]? = some v → mayV v = true)) (fun s8 _ => V.length - (intOf s8).toNat)
  case atStart => exact ⟨0, by omega, rfl, Below.refl _ _, fun i v hi => by omega⟩
  case round =>
    obtain ⟨j, hj, rfl, hB, HNO⟩ := hrel
    by_cases hjv : j < V.length
    · obtain ⟨v, hv⟩ : ∃ v, V[j]? = some v := ⟨_, List.getElem?_eq_getElem hjv⟩
      obtain ⟨b, off, rfl⟩ := some_of_at hA (by rw [HLV.out]; omega)
      obtain ⟨cs, ⟨nA, nd, rfl, hn1, hn2, hn3, hn4⟩, hat⟩ := Vts.at' _ _ j v hV hA hv
      have hat1 : At wr (some ⟨b, off + j * 14, none⟩) _ := hat.below hB
      have hji : (j : Int) < (V.length : Int) := by omega
      have hj0 : (0 : Int) ≤ (j : Int) := by omega
      have hmi : (V.length : Int) ≤ 140737488351232 := by omega
      have HCL := Lib.hid (vbad_calls (w := wr) (s := v.1) (b := v.2.1) (c := v.2.2.1) (d := nd) (hn1.below hB) (by omega))
      have HV := Lib.hid hv
      obtain ⟨vs0, vb0, vc0, vl0⟩ := v
      simp only at hat1
      clear hv hat hn1 hn2 hn3 hn4
      cases hm : mayV (vs0, vb0, vc0, vl0) with
      | true =>
        have HM := Lib.hid hm
        simp only [hm] at HCL
        clear hm
        go_wp2_with (first
          | (refine wpList_load_at rfl 74 (.tmp 14) rfl rfl hat1 Try.underlying74 rfl (by kernel_rfl) ?_)
          | (go_at_call 55; refine HCL.out.mono ?_; rintro e w6 ⟨rfl, hb6⟩))
        refine ⟨⟨j + 1, by omega, by go_num, hB.trans (hb6.mono hB.size), ?_⟩, by simp [intOf]; omega⟩
        intro i u hi hu
        by_cases hij : i < j
        · exact HNO.out i u hij hu
        · obtain rfl : i = j := by omega
          rw [HV.out] at hu
          injection hu with hu
          rw [← hu]; exact HM.out
      | false =>
        have HM := Lib.hid hm
        simp only [hm] at HCL
        clear hm
        go_wp2_with (first
          | (refine wpList_load_at rfl 74 (.tmp 14) rfl rfl hat1 Try.underlying74 rfl (by kernel_rfl) ?_)
          | (go_at_call 55; refine HCL.out.mono ?_; rintro e w6 ⟨rfl, hb6⟩))
        go_ret
        refine ⟨(j : Int), rfl, ?_, hB.trans (hb6.mono hB.size)⟩
        rw [decide_eq_true (by omega)]
        symm
        rw [List.any_eq_true]
        exact ⟨_, List.mem_of_getElem? HV.out, by rw [HM.out]; rfl⟩
    · go_wp2_with fail
      go_ret
      refine ⟨-1, rfl, ?_, hB⟩
      rw [decide_eq_false (by omega)]
      symm
      rw [List.any_eq_false]
      intro v hv
      obtain ⟨i, hi⟩ := List.getElem?_of_mem hv
      have hlt : i < V.length := (List.getElem?_eq_some_iff.1 hi).1
      rw [HNO.out i v (by omega) hi]
      decide

set_option maxHeartbeats 400000 in
theorem vhas_calls {w : World} {A : Option Addr} {c : Nat} {vs : List Value} {V : List Vt} (hA : At w A vs) (hV : Vts w vs V) (hmax : V.length ≤ 140737488351232) :
    Calls Try.prog 56 #[.slice A V.length c, .func (.func 55) #[] #[]] w (RetV w (.bool (V.any (fun v => !mayV v)))) := by
  have HC := Lib.hid (vidx_calls (c := c) hA hV hmax)
  clear hA hV hmax
  go_enter Try.func56, Try.ntmps56
  go_wp2_with fail
  refine HC.out.mono ?_
  rintro e w1 ⟨r, rfl, hr, hb⟩
  have HR := Lib.hid hr
  clear hr
  go_wp2_with fail
  go_ret
  exact ⟨ret_bool HR.out, hb⟩
end Go.Proofs.Ytfcacplecapgfaa
