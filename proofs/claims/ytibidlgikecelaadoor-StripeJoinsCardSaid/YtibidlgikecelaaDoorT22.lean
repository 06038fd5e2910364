/- Contract: amphoraref03.some, of anything. -/
import Derived.Test.YtibidlgikecelaaDoorT21
namespace Go.Proofs.YtibidlgikecelaaDoor
open Go.RowKit
set_option linter.unusedVariables false
set_option linter.unusedSimpArgs false

/-- What the document's some answers: places, or that they are none. -/
def RetSr (w : World) (l : List Nat) : Bool → Ending → World → Prop
  | true, e, w' => e = .returned (.tuple #[.slice none 0 0, .bool false]) ∧ Below w.heap.size w w'
  | false, e, w' => ∃ A cap, e = .returned (.tuple #[.slice A l.length cap, .bool true]) ∧ At w' A (ints (asInts l)) ∧ l.length ≤ cap ∧ (A = none → cap = 0) ∧ Below w.heap.size w w'

set_option maxHeartbeats 2000000 in
set_option maxRecDepth 100000 in
theorem rsome_gen {w : World} {K M N cS : Nat} {S : Option Addr} {vs : List Value} {LL : List (List B8)} {od : Bool} (hS : At w S vs) (hLS : Texts w vs LL) (hN : N = LL.length) (hNK : N = K + M) (hK : 1 ≤ K) (hKM : K + M ≤ 255) (HOD : Hid (oddB LL (presL LL N) = od)) :
    Calls Tryd.prog 83 #[.agg #[.int .i64 (K : Int), .int .i64 (M : Int)], .slice S N cS] w (RetSr w (presL LL N) od) := by
  obtain ⟨bS, oS, rfl⟩ := some_of_at hS (by rw [hLS.1]; omega)
  obtain ⟨wa, hwa, hb1, hk0, hk1, hs1⟩ := code_box w (K : Int) (M : Int)
  have HWA := Lib.hid hwa
  clear hwa
  have hbS := hS.lt (by rw [hLS.1]; omega) bS oS rfl
  have hneq : ((N : Int) != (K : Int) + (M : Int)) = false := by simp; omega
  have HCAN := Lib.hid (rcan_calls (w := wa) hK hKM)
  have hN255 : N ≤ 255 := by omega
  have HN := Lib.hid hN
  clear hN hNK
  go_enter Tryd.func83, Tryd.ntmps83
  go_wp2_with fail
  have hwa := HWA.out
  rw [← hwa]
  clear hwa HWA
  refine HCAN.out.mono ?_
  rintro e w2 ⟨rfl, hb2⟩
  have hB2 := hb1.trans (hb2.mono hb1.size)
  have hk02 := (hb2.cell (p := ⟨w.heap.size, 0, none⟩) (block_lt hk0)).trans hk0
  have hk12 := (hb2.cell (p := ⟨w.heap.size, 1, none⟩) (block_lt hk1)).trans hk1
  clear HCAN hk0 hk1 hb1 hb2 hs1
  go_wp2_with fail
  clear hk02 hk12
  go_loopw [6, 24] (fun s6 s wr => ∃ (i : Nat) (l : List Nat) (A' : Option Addr) (c' : Nat), i ≤ N ∧ s = .int .i64 ((i : Nat) : Int) ∧ s6 = .slice A' l.length c' ∧ Hid (l = presL LL i) ∧
    wr.ownsRow w2.heap.size 3 1 (.slice A' l.length c') l.length (ints (asInts l)) ∧ Below w2.heap.size w2 wr ∧ Hid (∀ (j x : Nat), l[j]? = some x → lenAt LL x = lenAt LL (l.getD 0 0))) (fun _ s _ => N - (intOf s).toNat)
  case atStart => exact ⟨0, [], none, 0, by omega, rfl, rfl, rfl, World.ownsRow_nil _ _ _ _, Below.refl _ _, fun j x h => by simp at h⟩
  case round =>
    obtain ⟨i, l, A', c', hi, rfl, rfl, hl, ho, hb, HE⟩ := hrel
    rename World => w3
    have hBw := hB2.trans (hb.mono hB2.size)
    have hlen : l.length ≤ 255 := by
      have := presL_le LL i
      rw [← hl.out] at this
      omega
    by_cases hin : i < N
    · have hii : (i : Int) < (N : Int) := by omega
      have hit : i < LL.length := by rw [← HN.out]; exact hin
      have hx : LL[i]? = some LL[i] := List.getElem?_eq_getElem hit
      generalize LL[i] = r at *
      obtain ⟨X, cx, hcx, _, _, _⟩ := head_at hS hLS hx
      have hcxw := (hBw.cell (p := ⟨bS, oS + i, none⟩) hbS).trans hcx
      clear hcx
      by_cases hr : r = []
      · subst hr
        have HS := Lib.hid (presL_skip hx rfl)
        clear hx
        go_wp2_with fail
        exact ⟨⟨i + 1, l, A', c', by omega, by go_num, rfl, hl.out.trans HS.out.symm, ho, hb, HE⟩, by simp [intOf]; omega⟩
      · have hrl : 0 < r.length := List.length_pos_iff.2 hr
        have hr0 : ((r.length : Int) == 0) = false := beq_eq_false_iff_ne.2 (by omega)
        have HS := Lib.hid (presL_take hx hr)
        have HX := Lib.hid hx
        have HR := Lib.hid hr
        have ho2 := own_below ho (below1' w3 (.cells #[.int .i64 (i : Int)] 3))
        have hz2 := hb.size
        have hbyt : (l.length + 1) * 8 ≤ 140737488355328 := by omega
        have hzA : w2.heap.size ≤ (w3.alloc (.cells #[.int .i64 (i : Int)] 3)).heap.size := by simp; omega
        clear hx hr
        by_cases hl0 : l.length = 0
        · have hd0 : decide ((0 : Int) < (l.length : Int)) = false := decide_eq_false (by omega)
          have hl0i : ¬ (0 : Int) < (l.length : Int) := by omega
          have HL0 := Lib.hid hl0
          clear hl0
          (go_wp2_with (at_builtin; refine app_ints rfl (.tmp 47) (.tmp 49) rfl w2.heap.size rfl ho2 rfl (news := [(i : Int)]) rfl (by exact at_new _ _ _ _) (by simp) hbyt hzA ?_; intro A5 c5 w5 ho5 hb5 hg5 hc5)); rw [asInts_snoc] at ho5; have hle : (l ++ [i]).length = l.length + 1 := (by simp); refine ⟨⟨i + 1, l ++ [i], A5, c5, by omega, by go_num, (by rw [hle]), (by show l ++ [i] = _; rw [HS.out, hl.out]), (by rw [hle]; exact ho5), (hb.trans ((below1' _ _).mono hz2)).trans hb5, ?_⟩, by simp [intOf]; omega⟩
          · intro j x h
            have hle : l = [] := List.length_eq_zero_iff.1 HL0.out
            subst hle
            have hj : j = 0 := by
              have := (List.getElem?_eq_some_iff.1 h).1
              simp at this; exact this
            subst hj
            cases h
            rfl
        · have hd0 : decide ((0 : Int) < (l.length : Int)) = true := decide_eq_true (by omega)
          have hl0i : (0 : Int) < (l.length : Int) := by omega
          obtain ⟨x0, hx0⟩ : ∃ x0, l[0]? = some x0 := ⟨_, List.getElem?_eq_getElem (by omega)⟩
          have hm0 : x0 ∈ presL LL i := by rw [← hl.out]; exact List.mem_of_getElem? hx0
          have hx0L : x0 < LL.length := by have := (presL_mem hm0).1; omega
          have hr0' : LL[x0]? = some LL[x0] := List.getElem?_eq_getElem hx0L
          have hle0 : lenAt LL (l.getD 0 0) = LL[x0].length := by rw [getD_some hx0, lenAt_some hr0']
          generalize LL[x0] = r0 at *
          obtain ⟨bl, ol, rfl⟩ := some_of_at (own_at ho) (by simp; omega)
          have hc0 := at_nat (own_at ho) hx0
          rw [Nat.add_zero] at hc0
          obtain ⟨X0, cx0, hh0, _, _, _⟩ := head_at hS hLS hr0'
          have hh0w := (hBw.cell (p := ⟨bS, oS + x0, none⟩) hbS).trans hh0
          have hx0N : (x0 : Int) < (N : Int) := by have := HN.out; omega
          have HX0 := Lib.hid hx0
          have HLE0 := Lib.hid hle0
          clear hm0 hr0' hh0 hx0 hle0 hl0
          by_cases heq : r.length = r0.length
          · have hne : ((r.length : Int) != (r0.length : Int)) = false := by rw [heq]; simp
            have HEQ := Lib.hid heq
            clear heq
            (go_wp2_with (at_builtin; refine app_ints rfl (.tmp 47) (.tmp 49) rfl w2.heap.size rfl ho2 rfl (news := [(i : Int)]) rfl (by exact at_new _ _ _ _) (by simp) hbyt hzA ?_; intro A5 c5 w5 ho5 hb5 hg5 hc5)); rw [asInts_snoc] at ho5; have hle : (l ++ [i]).length = l.length + 1 := (by simp); refine ⟨⟨i + 1, l ++ [i], A5, c5, by omega, by go_num, (by rw [hle]), (by show l ++ [i] = _; rw [HS.out, hl.out]), (by rw [hle]; exact ho5), (hb.trans ((below1' _ _).mono hz2)).trans hb5, ?_⟩, by simp [intOf]; omega⟩
            · have e0 : (l ++ [i]).getD 0 0 = l.getD 0 0 := by
                rw [getD_some (x := x0) (by rw [List.getElem?_append_left (by have := (List.getElem?_eq_some_iff.1 HX0.out).1; exact this)]; exact HX0.out), getD_some HX0.out]
              intro j x h
              rw [e0]
              by_cases hj : j < l.length
              · rw [List.getElem?_append_left hj] at h
                exact HE.out j x h
              · have hjl : j = l.length := by
                  have := (List.getElem?_eq_some_iff.1 h).1
                  simp at this; omega
                subst hjl
                simp at h
                subst h
                rw [lenAt_some HX.out, HLE0.out, HEQ.out]
          · have hne : ((r.length : Int) != (r0.length : Int)) = true := by simp; omega
            have hod : od = true := by
              rw [← HOD.out]
              refine oddB_at hin HX.out HR.out (by rw [← hl.out]; omega) ?_
              rw [← hl.out, HLE0.out]
              exact heq
            subst hod
            clear heq
            go_wp2_with fail
            go_ret2
            exact ⟨rfl, hBw⟩
    · obtain rfl : N = i := by omega
      have hod : od = false := by
        rw [← HOD.out, ← hl.out]
        exact oddB_no HE.out
      subst hod
      go_wp2_with fail
      go_ret2
      rw [← hl.out]
      exact ⟨A', c', rfl, own_at ho, own_le ho, own_nil ho, hBw⟩

set_option maxHeartbeats 1000000 in
set_option maxRecDepth 100000 in
theorem rsome_no {w : World} {K M : Int} {N cS : Nat} {S : Option Addr} (h : ¬ (codeB K M ∧ (N : Int) = K + M)) :
    Calls Tryd.prog 83 #[.agg #[.int .i64 K, .int .i64 M], .slice S N cS] w (RetSr w [] true) := by
  obtain ⟨wa, hwa, hb1, hk0, hk1, hs1⟩ := code_box w K M
  have HWA := Lib.hid hwa
  clear hwa
  have HCAN := Lib.hid (rcan_x (w := wa) K M)
  by_cases hc : codeB K M
  · rw [decide_eq_true hc] at HCAN
    have hneq : ((N : Int) != K + M) = true := by
      have : (N : Int) ≠ K + M := fun he => h ⟨hc, he⟩
      simpa using this
    have hr : -1000 ≤ K + M ∧ K + M ≤ 1000 := by obtain ⟨c1, c2, c3, c4⟩ := hc; omega
    clear h hc
    go_enter Tryd.func83, Tryd.ntmps83
    go_wp2_with fail
    have hwa := HWA.out
    rw [← hwa]
    clear hwa
    refine HCAN.out.mono ?_
    rintro e w3 ⟨rfl, hb3⟩
    have hB3 := hb1.trans (hb3.mono hb1.size)
    have hk03 := (hb3.cell (p := ⟨w.heap.size, 0, none⟩) (block_lt hk0)).trans hk0
    have hk13 := (hb3.cell (p := ⟨w.heap.size, 1, none⟩) (block_lt hk1)).trans hk1
    clear hk0 hk1
    go_wp2_with fail
    go_ret2
    exact ⟨rfl, hB3⟩
  · rw [decide_eq_false hc] at HCAN
    clear h hc
    go_enter Tryd.func83, Tryd.ntmps83
    go_wp2_with fail
    have hwa := HWA.out
    rw [← hwa]
    clear hwa
    refine HCAN.out.mono ?_
    rintro e w3 ⟨rfl, hb3⟩
    go_wp2_with fail
    go_ret2
    exact ⟨rfl, hb1.trans (hb3.mono hb1.size)⟩
theorem rsome_x {w : World} {K M : Int} {N cS : Nat} {S : Option Addr} {LL : List (List B8)} (hS : LAt w S LL) (hN : N = LL.length) :
    Calls Tryd.prog 83 #[.agg #[.int .i64 K, .int .i64 M], .slice S N cS] w (RetSr w (presL LL N) (!okS K M LL)) := by
  by_cases h : codeB K M ∧ (N : Int) = K + M
  · obtain ⟨⟨c1, c2, c3, c4⟩, h2⟩ := h
    obtain ⟨K, rfl⟩ := Int.eq_ofNat_of_zero_le (by omega : 0 ≤ K)
    obtain ⟨M, rfl⟩ := Int.eq_ofNat_of_zero_le (by omega : 0 ≤ M)
    obtain ⟨vs, hA, hT⟩ := hS
    refine rsome_gen hA hT hN (by omega) (by omega) (by omega) ?_
    have e1 : codeB (K : Int) (M : Int) := ⟨by omega, by omega, by omega, by omega⟩
    have e2 : (LL.length : Int) = (K : Int) + (M : Int) := by omega
    show _ = _
    unfold okS
    rw [decide_eq_true e1, decide_eq_true e2, ← hN]
    simp
  · have : okS K M LL = false := by
      unfold okS
      by_cases hc : codeB K M
      · rw [decide_eq_false (fun he : (LL.length : Int) = K + M => h ⟨hc, by omega⟩)]; simp
      · rw [decide_eq_false hc]; simp
    rw [this]
    exact rsome_no h

end Go.Proofs.YtibidlgikecelaaDoor
