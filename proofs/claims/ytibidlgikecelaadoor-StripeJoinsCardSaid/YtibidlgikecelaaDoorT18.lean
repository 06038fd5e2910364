/- Contracts: the codes that may be, amphoraref03.Encode of anything. -/
import Derived.Test.YtibidlgikecelaaDoorT17
namespace Go.Proofs.YtibidlgikecelaaDoor
open Go.RowKit
set_option linter.unusedVariables false
set_option linter.unusedSimpArgs false

instance (K M : Int) : Decidable (codeB K M) := by unfold codeB; infer_instance
theorem can_x {w : World} (K M : Int) : Calls Tryd.prog 35 #[.agg #[.int .i64 K, .int .i64 M]] w (RetV w (.bool (decide (codeB K M)))) := by
  by_cases h : codeB K M
  · rw [decide_eq_true h]
    obtain ⟨c1, c2, c3, c4⟩ := h
    obtain ⟨K, rfl⟩ := Int.eq_ofNat_of_zero_le (by omega : 0 ≤ K)
    obtain ⟨M, rfl⟩ := Int.eq_ofNat_of_zero_le (by omega : 0 ≤ M)
    exact can_calls (by omega) (by omega)
  · rw [decide_eq_false h]
    exact can_bad (not_codeB h)
theorem rcan_x {w : World} (K M : Int) : Calls Tryd.prog 36 #[.agg #[.int .i64 K, .int .i64 M]] w (RetV w (.bool (decide (codeB K M)))) := by
  by_cases h : codeB K M
  · rw [decide_eq_true h]
    obtain ⟨c1, c2, c3, c4⟩ := h
    obtain ⟨K, rfl⟩ := Int.eq_ofNat_of_zero_le (by omega : 0 ≤ K)
    obtain ⟨M, rfl⟩ := Int.eq_ofNat_of_zero_le (by omega : 0 ≤ M)
    exact rcan_calls (by omega) (by omega)
  · rw [decide_eq_false h]
    exact rcan_bad (not_codeB h)

set_option maxHeartbeats 2000000 in
set_option maxRecDepth 100000 in
theorem rencode_bad {w : World} {K M : Int} {N cS : Nat} {S : Option Addr} {vs : List Value} {L : List (List B8)} (hS : At w S vs) (hL : Texts w vs L) (hN : N = L.length) (hmax : N ≤ 5864062014634) (h : ¬ dataB K M L) :
    Calls Tryd.prog 34 #[.agg #[.int .i64 K, .int .i64 M], .slice S N cS] w (RetE w 1) := by
  obtain ⟨wb, hwb, hB2, hk0, hk1, hsz⟩ := code_box w K M
  have HWB := Lib.hid hwb
  clear hwb
  have HCAN := Lib.hid (rcan_x (w := wb) K M)
  by_cases hc : codeB K M
  · rw [decide_eq_true hc] at HCAN
    by_cases hNK : (N : Int) = K
    · subst hNK
      have hneq : ((N : Int) != (N : Int)) = false := by simp
      have hN1 : 0 < L.length := by have := hc.1; omega
      have h0 : L[0]? = some L[0] := List.getElem?_eq_getElem hN1
      have hw : widL L = L[0].length := by unfold widL; rw [List.getD_eq_getElem?_getD, h0]; rfl
      obtain ⟨b, off, rfl, hbl⟩ := heads_some hS hL hN1
      generalize L[0] = l0 at *
      obtain ⟨X, cx, hcx, _, _, _⟩ := head_at hS hL h0
      rw [Nat.add_zero] at hcx
      have hNi : (0 : Int) < (N : Int) := by omega
      by_cases hz : l0.length = 0
      · have hz0 : ((l0.length : Int) == 0) = true := beq_iff_eq.2 (by omega)
        clear h hc hw h0 hS hL hN hz
        go_enter Tryd.func34, Tryd.ntmps34
        go_wp2_with fail
        have hwb := HWB.out
        rw [← hwb]
        clear hwb
        refine HCAN.out.mono ?_
        rintro e w3 ⟨rfl, hb3⟩
        have hB3 := hB2.trans (hb3.mono hB2.size)
        have hk03 := (hb3.cell (p := ⟨w.heap.size, 0, none⟩) (block_lt hk0)).trans hk0
        have hc3 := (hB3.cell (p := ⟨b, off, none⟩) hbl).trans hcx
        clear hk0 hk1 hcx
        go_wp2_with fail
        go_ret2
        exact ⟨rfl, hB3⟩
      · have hz0 : ((l0.length : Int) == 0) = false := beq_eq_false_iff_ne.2 (by omega)
        have HODD : Hid (¬ ∀ (i : Nat) l, i < N → L[i]? = some l → l.length = l0.length) := fun hall => h ⟨hc, by omega, by omega, fun l hl => by
          obtain ⟨i, hi, rfl⟩ := List.getElem_of_mem hl
          rw [hw]
          exact hall i _ (by omega) (List.getElem?_eq_getElem hi)⟩
        have HNL := Lib.hid hN
        clear h hc hw h0 hN hz
        go_enter Tryd.func34, Tryd.ntmps34
        go_wp2_with fail
        have hwb := HWB.out
        rw [← hwb]
        clear hwb
        refine HCAN.out.mono ?_
        rintro e w3 ⟨rfl, hb3⟩
        have hB3 := hB2.trans (hb3.mono hB2.size)
        have hk03 := (hb3.cell (p := ⟨w.heap.size, 0, none⟩) (block_lt hk0)).trans hk0
        have hc3 := (hB3.cell (p := ⟨b, off, none⟩) hbl).trans hcx
        clear hk0 hk1 hcx
        go_wp2_with fail
        go_loop [37] (fun s => ∃ t : Nat, t ≤ N ∧ s = .int .i64 ((t : Nat) : Int) ∧ Hid (∀ (i : Nat) l, i < t → L[i]? = some l → l.length = l0.length)) (fun s => N - (intOf s).toNat)
        case atStart => exact ⟨0, by omega, rfl, fun i l hi => by omega⟩
        case round =>
          obtain ⟨t, ht, rfl, HALL⟩ := hrel
          by_cases htN : t < N
          · have hti : (t : Int) < (N : Int) := by omega
            have hlt : L[t]? = some L[t] := List.getElem?_eq_getElem (by rw [← HNL.out]; exact htN)
            generalize L[t] = lt at *
            obtain ⟨Y, cy, hcy, _, _, _⟩ := head_at hS hL hlt
            have hcyw := (hB3.cell (p := ⟨b, off + t, none⟩) hbl).trans hcy
            have HLT := Lib.hid hlt
            clear hcy hlt
            by_cases heq : lt.length = l0.length
            · have hne : ((lt.length : Int) != (l0.length : Int)) = false := by rw [heq]; simp
              have HEQ := Lib.hid heq
              clear heq
              go_wp2_with fail
              refine ⟨⟨t + 1, by omega, by go_num, fun i l hi hl => ?_⟩, by simp [intOf]; omega⟩
              by_cases hit : i < t
              · exact HALL.out i l hit hl
              · obtain rfl : i = t := by omega
                rw [HLT.out] at hl
                cases hl
                exact HEQ.out
            · have hne : ((lt.length : Int) != (l0.length : Int)) = true := by simp; omega
              clear heq
              go_wp2_with fail
              go_ret2
              exact ⟨rfl, hB3⟩
          · obtain rfl : N = t := by omega
            exact absurd HALL.out HODD.out
    · have hneq : ((N : Int) != K) = true := by simp; omega
      clear h hNK hS hL hN hc
      go_enter Tryd.func34, Tryd.ntmps34
      go_wp2_with fail
      have hwb := HWB.out
      rw [← hwb]
      clear hwb
      refine HCAN.out.mono ?_
      rintro e w3 ⟨rfl, hb3⟩
      have hB3 := hB2.trans (hb3.mono hB2.size)
      have hk03 := (hb3.cell (p := ⟨w.heap.size, 0, none⟩) (block_lt hk0)).trans hk0
      clear hk0 hk1
      go_wp2_with fail
      go_ret2
      exact ⟨rfl, hB3⟩
  · rw [decide_eq_false hc] at HCAN
    clear h hc hS hL hN
    go_enter Tryd.func34, Tryd.ntmps34
    go_wp2_with fail
    have hwb := HWB.out
    rw [← hwb]
    clear hwb
    refine HCAN.out.mono ?_
    rintro e w3 ⟨rfl, hb3⟩
    go_wp2_with fail
    go_ret2
    exact ⟨rfl, hB2.trans (hb3.mono hB2.size)⟩

theorem rencode_x {w : World} {K M : Int} {N cS : Nat} {S : Option Addr} {L : List (List B8)} (hS : LAt w S L) (hN : N = L.length) (hmax : N ≤ 5864062014634) (hwid : widL L ≤ 1000) :
    Calls Tryd.prog 34 #[.agg #[.int .i64 K, .int .i64 M], .slice S N cS] w (RetL w (encL K M L) (encE K M L)) := by
  unfold encL encE
  by_cases h : dataB K M L
  · rw [if_pos h, if_pos h]
    obtain ⟨⟨c1, c2, c3, c4⟩, h2, h3, h4⟩ := h
    obtain ⟨M, rfl⟩ := Int.eq_ofNat_of_zero_le (by omega : 0 ≤ M)
    subst hN
    rw [← h2]
    exact (rencode_calls (hS.mat rfl h4) (by omega) (by omega) h3 (by omega)).mono fun e w' hh => hh.l
  · rw [if_neg h, if_neg h]
    obtain ⟨vs, h1, h2⟩ := hS
    exact (rencode_bad h1 h2 hN hmax h).mono fun e w' hh => (RetE.x hh).l

end Go.Proofs.YtibidlgikecelaaDoor
