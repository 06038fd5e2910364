/- Contracts: amphoraref05.Fine, nodes, MayCmd. -/
import Derived.Test.YtfcacplecapgfaaE5
namespace Go.Proofs.Ytfcacplecapgfaa
open Go.RowKit
set_option linter.unusedVariables false
set_option linter.unusedSimpArgs false

/-- A number may go over the wire. -/
def fineB (n : Int) : Bool := decide (0 ≤ n) && decide (n ≤ 1152921504606846976)
set_option maxHeartbeats 400000 in
theorem fine_calls {w : World} (n : Int) : Calls Try.prog 46 #[.int .i64 n] w fun e w' => e = .returned (.bool (fineB n)) ∧ w = w' := by
  unfold fineB
  by_cases h : 0 ≤ n
  · have hd : decide (0 ≤ n) = true := decide_eq_true h
    rw [hd]
    clear h
    generalize hb : decide (n ≤ 1152921504606846976) = b
    go_enter Try.func46, Try.ntmps46
    go_wp2_with fail
    go_ret
    exact ⟨rfl, rfl⟩
  · have hd : decide (0 ≤ n) = false := decide_eq_false h
    rw [hd]
    clear h
    go_enter Try.func46, Try.ntmps46
    go_wp2_with fail
    go_ret
    exact ⟨rfl, rfl⟩
theorem wideB_at {most x : Int} {l : List Int} {t : Nat} (h : l[t]? = some x) (hb : x < 0 ∨ most < x) : wideB most l = true := by
  unfold wideB
  rw [List.any_eq_true]
  exact ⟨x, List.mem_of_getElem? h, by simp; omega⟩
theorem wideB_no {most : Int} {l : List Int} (h : ∀ (i : Nat) x, l[i]? = some x → 0 ≤ x ∧ x ≤ most) : wideB most l = false := by
  rw [wideB_false]
  intro x hx
  obtain ⟨i, hi, rfl⟩ := List.getElem_of_mem hx
  exact h i _ (List.getElem?_eq_getElem hi)

set_option maxHeartbeats 800000 in
theorem nodes_calls {w : World} {A : Option Addr} {n c : Nat} {l : List Int} (hA : At w A (ints l)) (hn : n = l.length) (hmax : n ≤ 140737488355328) :
    Calls Try.prog 48 #[.slice A n c] w fun e w' => e = .returned (.bool (!wideB 15 l && decide (l.length ≤ 255))) ∧ w = w' := by
  subst hn
  generalize hr : (!wideB 15 l && decide (l.length ≤ 255)) = r
  have HR := Lib.hid hr
  have hk : decide ((l.length : Int) ≤ 255) = decide (l.length ≤ 255) := by
    by_cases h : l.length ≤ 255
    · rw [decide_eq_true h, decide_eq_true (by omega)]
    · rw [decide_eq_false h, decide_eq_false (by omega)]
  clear hr
  go_enter Try.func48, Try.ntmps48
  go_wp2_with fail
  go_loop [7] (fun s => ∃ t : Nat, t ≤ l.length ∧ s = .int .i64 ((t : Nat) : Int) ∧ Hid (∀ (i : Nat) x, i < t → l[i]? = some x → 0 ≤ x ∧ x ≤ 15)) (fun s => l.length - (intOf s).toNat)
  case atStart => exact ⟨0, by omega, rfl, fun i x hi => by omega⟩
  case round =>
    obtain ⟨t, ht, rfl, HALL⟩ := hrel
    by_cases htn : t < l.length
    · have hti : (t : Int) < (l.length : Int) := by omega
      obtain ⟨b, off, rfl, hcx⟩ := hA.int htn
      have HX := Lib.hid (List.getElem?_eq_getElem htn)
      generalize l[t] = x at *
      by_cases h0 : x < 0
      · have HW := Lib.hid (wideB_at (most := 15) HX.out (.inl h0))
        go_wp2_with fail
        go_ret
        exact ⟨ret_bool (by rw [← HR.out, HW.out]; rfl), rfl⟩
      · by_cases h15 : 15 < x
        · have HW := Lib.hid (wideB_at (most := 15) HX.out (.inr h15))
          go_wp2_with fail
          go_ret
          exact ⟨ret_bool (by rw [← HR.out, HW.out]; rfl), rfl⟩
        · go_wp2_with fail
          refine ⟨⟨t + 1, by omega, by go_num, fun i y hi hy => ?_⟩, by simp [intOf]; omega⟩
          by_cases hit : i < t
          · exact HALL.out i y hit hy
          · obtain rfl : i = t := by omega
            rw [HX.out] at hy
            cases hy
            omega
    · obtain rfl : l.length = t := by omega
      have HW := Lib.hid (wideB_no (most := 15) (l := l) fun i x hx => HALL.out i x (List.getElem?_eq_some_iff.1 hx).1 hx)
      generalize decide (l.length ≤ 255) = b at *
      go_wp2_with fail
      go_ret
      exact ⟨ret_bool (by rw [← HR.out, HW.out]; simp), rfl⟩

theorem not_may {c : Cm} {l : List Int} (h : ¬ OkC c l) : false = mayC c l := by
  cases hm : mayC c l with
  | false => rfl
  | true => exact absurd (mayC_ok.1 hm) h
theorem is_may {c : Cm} {l : List Int} (h : OkC c l) : true = mayC c l := (mayC_ok.2 h).symm
theorem fineB_true {n : Int} : fineB n = true ↔ 0 ≤ n ∧ n ≤ 1152921504606846976 := by unfold fineB; simp

set_option maxHeartbeats 4000000 in
set_option maxRecDepth 100000 in
theorem rmayCmd_calls {w : World} (c : Cm) {A : Option Addr} {n d : Nat} {l : List Int} (hA : At w A (ints l)) (hn : n = l.length) (hmax : n ≤ 140737488355328) :
    Calls Try.prog 25 #[.agg #[.int .i64 c.id, .int .i64 c.kind, .string c.key, .int .i64 c.blob, .int .i64 c.other, .int .i64 c.index, .int .i64 c.node, .int .i64 c.size, .int .u32 c.sum, .int .i64 c.k, .int .i64 c.m, .slice A n d]] w (RetV w (.bool (mayC c l))) := by
  obtain ⟨wb, hwb, hB, hr, hz⟩ := cmd_box w c (.slice A n d)
  have HWB := Lib.hid hwb
  clear hwb
  have HA := Lib.hid hA
  have HM := Lib.hid hmax
  have HN := Lib.hid hn
  have HNM : Hid (¬ OkC c l → false = mayC c l) := not_may
  have HIM : Hid (OkC c l → true = mayC c l) := is_may
  generalize mayC c l = r at *
  obtain ⟨e0, e1, e2, e3, e4, e5, e6, e7, e8, e9, e10, e11⟩ := cells_of hr
  clear hA hmax hn
  go_enter Try.func25, Try.ntmps25
  go_wp2_with fail
  have hwb := HWB.out
  rw [← hwb]
  clear hwb HWB e0 e1 e2 e3 e4 e5 e6 e7 e8 e9 e10 e11
  have hbl := below1' wb (.cells #[.int .i64 c.id, .int .i64 c.blob, .int .i64 c.other, .int .i64 c.index, .int .i64 c.size] 3)
  have hat : At (wb.alloc (.cells #[.int .i64 c.id, .int .i64 c.blob, .int .i64 c.other, .int .i64 c.index, .int .i64 c.size] 3)) (some ⟨w.heap.size + 1, 0, none⟩) (ints [c.id, c.blob, c.other, c.index, c.size]) := by
    have := at_new wb #[.int .i64 c.id, .int .i64 c.blob, .int .i64 c.other, .int .i64 c.index, .int .i64 c.size] 3 (0, 0)
    rw [hz] at this
    exact this
  have hr1 := (hbl.block w.heap.size (by omega)).trans hr
  have hB1 := hB.trans (hbl.mono hB.size)
  generalize wb.alloc (.cells #[.int .i64 c.id, .int .i64 c.blob, .int .i64 c.other, .int .i64 c.index, .int .i64 c.size] 3) = w1 at *
  obtain ⟨e0, e1, e2, e3, e4, e5, e6, e7, e8, e9, e10, e11⟩ := cells_of hr1
  clear hbl hr hr1
  go_loop [18] (fun s => ∃ t : Nat, t ≤ 5 ∧ s = .int .i64 ((t : Nat) : Int) ∧ Hid (∀ (i : Nat) x, i < t → [c.id, c.blob, c.other, c.index, c.size][i]? = some x → 0 ≤ x ∧ x ≤ 1152921504606846976)) (fun s => 5 - (intOf s).toNat)
  case atStart => exact ⟨0, by omega, rfl, fun i x hi => by omega⟩
  case round =>
    obtain ⟨t, ht, rfl, HALL⟩ := hrel
    by_cases ht5 : t < 5
    · have hti : (t : Int) < 5 := by omega
      obtain ⟨b, off, hbo, hcx⟩ := hat.int (k := t) ht5
      injection hbo with hbo
      injection hbo with hb1 hb2
      subst hb1 hb2
      rw [Nat.zero_add] at hcx
      have HX := Lib.hid (List.getElem?_eq_getElem (l := [c.id, c.blob, c.other, c.index, c.size]) (i := t) ht5)
      generalize [c.id, c.blob, c.other, c.index, c.size][t] = x at *
      clear e0 e1 e2 e3 e4 e5 e6 e7 e8 e9 e10 e11
      go_wp2_with fail
      refine (fine_calls x).mono ?_
      rintro e w' ⟨rfl, rfl⟩
      cases hfb : fineB x with
      | false =>
        have HFB := Lib.hid hfb
        clear hfb
        go_wp2_with fail
        go_ret
        refine ⟨ret_bool (HNM.out fun h => ?_), hB1⟩
        have hm := List.mem_of_getElem? HX.out
        have hx : fineB x = true := by
          rw [fineB_true]
          simp only [List.mem_cons, List.not_mem_nil, or_false] at hm
          have h1 := h.id; have h2 := h.blob; have h3 := h.other; have h4 := h.index; have h5 := h.size
          rcases hm with rfl | rfl | rfl | rfl | rfl <;> omega
        rw [HFB.out] at hx
        cases hx
      | true =>
        have HFB := Lib.hid (fineB_true.1 hfb)
        clear hfb
        go_wp2_with fail
        refine ⟨⟨t + 1, by omega, by go_num, fun i y hi hy => ?_⟩, by simp [intOf]; omega⟩
        by_cases hit : i < t
        · exact HALL.out i y hit hy
        · obtain rfl : i = t := by omega
          rw [HX.out] at hy
          cases hy
          exact HFB.out
    · obtain rfl : t = 5 := by omega
      have HF5 : Hid ((0 ≤ c.id ∧ c.id ≤ 1152921504606846976) ∧ (0 ≤ c.blob ∧ c.blob ≤ 1152921504606846976) ∧ (0 ≤ c.other ∧ c.other ≤ 1152921504606846976) ∧ (0 ≤ c.index ∧ c.index ≤ 1152921504606846976) ∧ (0 ≤ c.size ∧ c.size ≤ 1152921504606846976)) :=
        ⟨HALL.out 0 _ (by omega) rfl, HALL.out 1 _ (by omega) rfl, HALL.out 2 _ (by omega) rfl, HALL.out 3 _ (by omega) rfl, HALL.out 4 _ (by omega) rfl⟩
      have hkey : ((c.key.size : Int) ≤ 8) ∨ ¬ ((c.key.size : Int) ≤ 8) := by omega
      have hcode : ¬ (0 ≤ c.k) ∨ (0 ≤ c.k ∧ ¬ (c.k ≤ 255)) ∨ (0 ≤ c.k ∧ c.k ≤ 255 ∧ ¬ (0 ≤ c.m)) ∨ (0 ≤ c.k ∧ c.k ≤ 255 ∧ 0 ≤ c.m ∧ ¬ (c.m ≤ 255)) ∨ (0 ≤ c.k ∧ c.k ≤ 255 ∧ 0 ≤ c.m ∧ c.m ≤ 255) := by omega
      have hrest : ¬ (0 ≤ c.kind) ∨ (0 ≤ c.kind ∧ ¬ (c.kind ≤ 12)) ∨ (0 ≤ c.kind ∧ c.kind ≤ 12 ∧ ¬ (0 ≤ c.node)) ∨ (0 ≤ c.kind ∧ c.kind ≤ 12 ∧ 0 ≤ c.node ∧ ¬ (c.node ≤ 15)) ∨ (0 ≤ c.kind ∧ c.kind ≤ 12 ∧ 0 ≤ c.node ∧ c.node ≤ 15) := by omega
      have HNO := Lib.hid (nodes_calls (w := w1) (c := d) (HA.out.below hB1) HN.out HM.out)
      rw [← HN.out] at HNO
      have hn255 : decide (n ≤ 255) = decide (n ≤ 255) := rfl
      generalize hww : (!wideB 15 l && decide (n ≤ 255)) = bn at HNO
      have HBN := Lib.hid hww
      clear hat hww hn255
      rcases hcode with hc | ⟨hc1, hc2⟩ | ⟨hc1, hc2, hc3⟩ | ⟨hc1, hc2, hc3, hc4⟩ | ⟨hc1, hc2, hc3, hc4⟩
      all_goals rcases hrest with hk | ⟨hk1, hk2⟩ | ⟨hk1, hk2, hk3⟩ | ⟨hk1, hk2, hk3, hk4⟩ | ⟨hk1, hk2, hk3, hk4⟩
      all_goals first
        | (have _ := hc4
           have _ := (hc4 : c.m ≤ 255)
           have _ := (hk4 : c.node ≤ 15)
           rcases hkey with hky | hky
           · go_wp2_with fail
             refine HNO.out.mono ?_
             rintro e w' ⟨rfl, rfl⟩
             go_wp2_with fail
             go_ret
             refine ⟨ret_bool ?_, hB1⟩
             cases bn with
             | true =>
               have h1 := HBN.out
               simp only [Bool.and_eq_true, Bool.not_eq_true', wideB_false, decide_eq_true_eq] at h1
               have hn := HN.out
               have h5 := HF5.out
               exact HIM.out ⟨h5.1, h5.2.1, h5.2.2.1, h5.2.2.2.1, h5.2.2.2.2, ⟨hk1, hk2⟩, ⟨hk3, hk4⟩, ⟨hc1, hc2⟩, ⟨hc3, hc4⟩, by omega, by omega, h1.1⟩
             | false =>
               refine HNM.out fun h => ?_
               have h1 := HBN.out
               have hn := HN.out
               rw [wideB_false.2 h.nodes, decide_eq_true (by have := h.len; omega)] at h1
               cases h1
           · go_wp2_with fail
             go_ret
             exact ⟨ret_bool (HNM.out fun h => by have := h.key; omega), hB1⟩)
        | (clear hkey
           go_wp2_with fail
           go_ret
           exact ⟨ret_bool (HNM.out fun h => by have h1 := h.k; have h2 := h.m; have h3 := h.kind; have h4 := h.node; omega), hB1⟩)

end Go.Proofs.Ytfcacplecapgfaa
