/- Contracts: reed.Repair, amphoraref03.Repair, of anything. -/
import Derived.Test.YtibidlgikecelaaDoorT24
namespace Go.Proofs.YtibidlgikecelaaDoor
open Go.RowKit
set_option linter.unusedVariables false
set_option linter.unusedSimpArgs false

/-- A call answers bytes, and an error's number. -/
def RetBy (w : World) (l : List B8) (err : Int) (e : Ending) (w' : World) : Prop :=
  ∃ A cap, e = .returned (.tuple #[.slice A l.length cap, .int .i64 err]) ∧ At w' A (bys l) ∧ Below w.heap.size w w'
def repE (K M : Int) (LL : List (List B8)) (i : Int) : Int := if okS K M LL = false ∨ i < 0 ∨ K + M ≤ i then 1 else decE K M LL
def repL (K M : Int) (LL : List (List B8)) (i : Int) : List B8 := if okS K M LL = false ∨ i < 0 ∨ K + M ≤ i then [] else if decE K M LL = 0 then (decL K M LL).getD i.toNat [] else []

set_option maxHeartbeats 2000000 in
set_option maxRecDepth 100000 in
theorem repair_x {w : World} {K M i : Int} {N cS : Nat} {S : Option Addr} {LL : List (List B8)} (hS : LAt w S LL) (hN : N = LL.length) (hc : ∀ l, l ∈ LL → l.length ≤ 1000) (hF : FoldAt w) :
    Calls Tryd.prog 52 #[.agg #[.int .i64 K, .int .i64 M], .slice S N cS, .int .i64 i] w (RetBy w (repL K M LL i) (repE K M LL i)) := by
  obtain ⟨wb, hwb, hB2, hk0, hk1, hsz⟩ := code_box w K M
  have HWB := Lib.hid hwb
  clear hwb
  have HSM := Lib.hid (some_x (w := wb) (K := K) (M := M) (cS := cS) (hS.below hB2) hN)
  cases hok : okS K M LL with
  | false =>
    rw [hok] at HSM
    have e1 : repE K M LL i = 1 := by unfold repE; rw [if_pos (Or.inl hok)]
    have e2 : repL K M LL i = [] := by unfold repL; rw [if_pos (Or.inl hok)]
    rw [e1, e2]
    clear hok hN hS hc e1 e2
    go_enter Tryd.func52, Tryd.ntmps52
    go_wp2_with fail
    have hwb := HWB.out
    rw [← hwb]
    clear hwb
    refine HSM.out.mono ?_
    rintro e w3 ⟨rfl, hb3⟩
    go_wp2_with fail
    go_ret2
    exact ⟨none, 0, rfl, At.nil _ _, hB2.trans (hb3.mono hB2.size)⟩
  | true =>
    rw [hok] at HSM
    obtain ⟨⟨c1, c2, c3, c4⟩, h2, h3⟩ := okS_true hok
    have hKM : 0 ≤ K + M ∧ K + M ≤ 255 := by omega
    by_cases hi0 : i < 0
    · have d1 : decide (i < (0 : Int)) = true := decide_eq_true hi0
      have e1 : repE K M LL i = 1 := by unfold repE; rw [if_pos (Or.inr (Or.inl hi0))]
      have e2 : repL K M LL i = [] := by unfold repL; rw [if_pos (Or.inr (Or.inl hi0))]
      rw [e1, e2]
      generalize presL LL N = pl at *
      clear hok hN hS hc e1 e2 h2 h3
      go_enter Tryd.func52, Tryd.ntmps52
      go_wp2_with fail
      have hwb := HWB.out
      rw [← hwb]
      clear hwb
      refine HSM.out.mono ?_
      rintro e w3 ⟨Al, cl, rfl, hAl, hlc, hnil, hb3⟩
      have hk03 := (hb3.cell (p := ⟨w.heap.size, 0, none⟩) (block_lt hk0)).trans hk0
      have hk13 := (hb3.cell (p := ⟨w.heap.size, 1, none⟩) (block_lt hk1)).trans hk1
      clear hk0 hk1
      go_wp2_with fail
      go_ret2
      exact ⟨none, 0, rfl, At.nil _ _, hB2.trans (hb3.mono hB2.size)⟩
    have d1 : decide (i < (0 : Int)) = false := decide_eq_false hi0
    by_cases hi1 : K + M ≤ i
    · have d2 : decide (K + M ≤ i) = true := decide_eq_true hi1
      have e1 : repE K M LL i = 1 := by unfold repE; rw [if_pos (Or.inr (Or.inr hi1))]
      have e2 : repL K M LL i = [] := by unfold repL; rw [if_pos (Or.inr (Or.inr hi1))]
      rw [e1, e2]
      generalize presL LL N = pl at *
      clear hok hN hS hc e1 e2 h2 h3
      go_enter Tryd.func52, Tryd.ntmps52
      go_wp2_with fail
      have hwb := HWB.out
      rw [← hwb]
      clear hwb
      refine HSM.out.mono ?_
      rintro e w3 ⟨Al, cl, rfl, hAl, hlc, hnil, hb3⟩
      have hk03 := (hb3.cell (p := ⟨w.heap.size, 0, none⟩) (block_lt hk0)).trans hk0
      have hk13 := (hb3.cell (p := ⟨w.heap.size, 1, none⟩) (block_lt hk1)).trans hk1
      clear hk0 hk1
      go_wp2_with fail
      go_ret2
      exact ⟨none, 0, rfl, At.nil _ _, hB2.trans (hb3.mono hB2.size)⟩
    have d2 : decide (K + M ≤ i) = false := decide_eq_false hi1
    have HDX := Lib.hid (fun (W : World) (hb : Below w.heap.size w W) => decode_l (w := W) (K := K) (M := M) (cS := cS) (hS.below hb) hN hc (FoldAt.below hF hb))
    have hno : ¬ (okS K M LL = false ∨ i < 0 ∨ K + M ≤ i) := by rw [hok]; intro h; rcases h with h | h | h; cases h; exact hi0 h; exact hi1 h
    have HE1 : Hid (repE K M LL i = decE K M LL) := by show _ = _; unfold repE; rw [if_neg hno]
    have HE2 : Hid (repL K M LL i = if decE K M LL = 0 then (decL K M LL).getD i.toNat [] else []) := by show _ = _; unfold repL; rw [if_neg hno]
    have HLEN := Lib.hid (fun h => decL_len (K := K) (M := M) (LL := LL) h)
    have HNI := Lib.hid hno
    obtain ⟨j, rfl⟩ := Int.eq_ofNat_of_zero_le (by omega : 0 ≤ i)
    have HJ : Hid ((j : Int) < K + M) := by show _ < _; omega
    generalize presL LL N = pl at *
    generalize decL K M LL = P at *
    generalize decE K M LL = E at *
    generalize repL K M LL (j : Int) = RL at *
    generalize repE K M LL (j : Int) = RE at *
    clear hok hN hS hc h2 h3 hno hi0 hi1 HNI
    go_enter Tryd.func52, Tryd.ntmps52
    go_wp2_with fail
    have hwb := HWB.out
    rw [← hwb]
    clear hwb
    refine HSM.out.mono ?_
    rintro e w3 ⟨Al, cl, rfl, hAl, hlc, hnil, hb3⟩
    have hB3 := hB2.trans (hb3.mono hB2.size)
    have hk03 := (hb3.cell (p := ⟨w.heap.size, 0, none⟩) (block_lt hk0)).trans hk0
    have hk13 := (hb3.cell (p := ⟨w.heap.size, 1, none⟩) (block_lt hk1)).trans hk1
    have HD := Lib.hid (HDX.out w3 hB3)
    clear hk0 hk1 hAl hlc hnil
    go_wp2_with fail
    refine HD.out.mono ?_
    rintro e w4 ⟨A4, c4', rfl, hX, hb4⟩
    have hB4 := hB3.trans (hb4.mono hB3.size)
    clear HD hk03 hk13
    by_cases hE : E = 0
    · obtain ⟨hl1, hl2⟩ := HLEN.out hE
      have hEE : RE = 0 := HE1.out.trans hE
      have hRL : RL = P.getD j [] := by
        have := HE2.out
        rw [if_pos hE, Int.toNat_natCast] at this
        exact this
      subst hE
      have hjP : j < P.length := by have := HJ.out; omega
      have hjp : (j : Int) < (P.length : Int) := by omega
      have hPj : P[j]? = some P[j] := List.getElem?_eq_getElem hjP
      have hRj : RL = P[j] := by rw [hRL, List.getD_eq_getElem?_getD, hPj]; rfl
      generalize P[j] = r at *
      subst hRj hEE
      obtain ⟨vX, hX1, hX2⟩ := hX
      obtain ⟨bX, oX, rfl⟩ := some_of_at hX1 (by rw [hX2.1]; omega)
      obtain ⟨Y, cy, hcy, hY, _, _⟩ := head_at hX1 hX2 hPj
      clear hRL hPj hl1 hl2 hjP HE1 HE2 HLEN
      go_wp2_with fail
      go_ret2
      exact ⟨Y, cy, rfl, hY, hB4⟩
    · have hne : (E != 0) = true := by simpa using hE
      have hEE : RE = E := HE1.out
      have hRL : RL = [] := by
        have := HE2.out
        rwa [if_neg hE] at this
      subst hEE hRL
      clear hE HE1 HE2 HLEN
      go_wp2_with fail
      go_ret2
      exact ⟨none, 0, rfl, At.nil _ _, hB4⟩
set_option maxHeartbeats 2000000 in
set_option maxRecDepth 100000 in
theorem rrepair_x {w : World} {K M i : Int} {N cS : Nat} {S : Option Addr} {LL : List (List B8)} (hS : LAt w S LL) (hN : N = LL.length) (hc : ∀ l, l ∈ LL → l.length ≤ 1000) (hF : FoldAt w) :
    Calls Tryd.prog 55 #[.agg #[.int .i64 K, .int .i64 M], .slice S N cS, .int .i64 i] w (RetBy w (repL K M LL i) (repE K M LL i)) := by
  obtain ⟨wb, hwb, hB2, hk0, hk1, hsz⟩ := code_box w K M
  have HWB := Lib.hid hwb
  clear hwb
  have HSM := Lib.hid (rsome_x (w := wb) (K := K) (M := M) (cS := cS) (hS.below hB2) hN)
  cases hok : okS K M LL with
  | false =>
    rw [hok] at HSM
    have e1 : repE K M LL i = 1 := by unfold repE; rw [if_pos (Or.inl hok)]
    have e2 : repL K M LL i = [] := by unfold repL; rw [if_pos (Or.inl hok)]
    rw [e1, e2]
    clear hok hN hS hc e1 e2
    go_enter Tryd.func55, Tryd.ntmps55
    go_wp2_with fail
    have hwb := HWB.out
    rw [← hwb]
    clear hwb
    refine HSM.out.mono ?_
    rintro e w3 ⟨rfl, hb3⟩
    go_wp2_with fail
    go_ret2
    exact ⟨none, 0, rfl, At.nil _ _, hB2.trans (hb3.mono hB2.size)⟩
  | true =>
    rw [hok] at HSM
    obtain ⟨⟨c1, c2, c3, c4⟩, h2, h3⟩ := okS_true hok
    have hKM : 0 ≤ K + M ∧ K + M ≤ 255 := by omega
    by_cases hi0 : i < 0
    · have d1 : decide (i < (0 : Int)) = true := decide_eq_true hi0
      have e1 : repE K M LL i = 1 := by unfold repE; rw [if_pos (Or.inr (Or.inl hi0))]
      have e2 : repL K M LL i = [] := by unfold repL; rw [if_pos (Or.inr (Or.inl hi0))]
      rw [e1, e2]
      generalize presL LL N = pl at *
      clear hok hN hS hc e1 e2 h2 h3
      go_enter Tryd.func55, Tryd.ntmps55
      go_wp2_with fail
      have hwb := HWB.out
      rw [← hwb]
      clear hwb
      refine HSM.out.mono ?_
      rintro e w3 ⟨Al, cl, rfl, hAl, hlc, hnil, hb3⟩
      have hk03 := (hb3.cell (p := ⟨w.heap.size, 0, none⟩) (block_lt hk0)).trans hk0
      have hk13 := (hb3.cell (p := ⟨w.heap.size, 1, none⟩) (block_lt hk1)).trans hk1
      clear hk0 hk1
      go_wp2_with fail
      go_ret2
      exact ⟨none, 0, rfl, At.nil _ _, hB2.trans (hb3.mono hB2.size)⟩
    have d1 : decide (i < (0 : Int)) = false := decide_eq_false hi0
    by_cases hi1 : K + M ≤ i
    · have d2 : decide (K + M ≤ i) = true := decide_eq_true hi1
      have e1 : repE K M LL i = 1 := by unfold repE; rw [if_pos (Or.inr (Or.inr hi1))]
      have e2 : repL K M LL i = [] := by unfold repL; rw [if_pos (Or.inr (Or.inr hi1))]
      rw [e1, e2]
      generalize presL LL N = pl at *
      clear hok hN hS hc e1 e2 h2 h3
      go_enter Tryd.func55, Tryd.ntmps55
      go_wp2_with fail
      have hwb := HWB.out
      rw [← hwb]
      clear hwb
      refine HSM.out.mono ?_
      rintro e w3 ⟨Al, cl, rfl, hAl, hlc, hnil, hb3⟩
      have hk03 := (hb3.cell (p := ⟨w.heap.size, 0, none⟩) (block_lt hk0)).trans hk0
      have hk13 := (hb3.cell (p := ⟨w.heap.size, 1, none⟩) (block_lt hk1)).trans hk1
      clear hk0 hk1
      go_wp2_with fail
      go_ret2
      exact ⟨none, 0, rfl, At.nil _ _, hB2.trans (hb3.mono hB2.size)⟩
    have d2 : decide (K + M ≤ i) = false := decide_eq_false hi1
    have HDX := Lib.hid (fun (W : World) (hb : Below w.heap.size w W) => rdecode_x (w := W) (K := K) (M := M) (cS := cS) (hS.below hb) hN hc (FoldAt.below hF hb))
    have hno : ¬ (okS K M LL = false ∨ i < 0 ∨ K + M ≤ i) := by rw [hok]; intro h; rcases h with h | h | h; cases h; exact hi0 h; exact hi1 h
    have HE1 : Hid (repE K M LL i = decE K M LL) := by show _ = _; unfold repE; rw [if_neg hno]
    have HE2 : Hid (repL K M LL i = if decE K M LL = 0 then (decL K M LL).getD i.toNat [] else []) := by show _ = _; unfold repL; rw [if_neg hno]
    have HLEN := Lib.hid (fun h => decL_len (K := K) (M := M) (LL := LL) h)
    have HNI := Lib.hid hno
    obtain ⟨j, rfl⟩ := Int.eq_ofNat_of_zero_le (by omega : 0 ≤ i)
    have HJ : Hid ((j : Int) < K + M) := by show _ < _; omega
    generalize presL LL N = pl at *
    generalize decL K M LL = P at *
    generalize decE K M LL = E at *
    generalize repL K M LL (j : Int) = RL at *
    generalize repE K M LL (j : Int) = RE at *
    clear hok hN hS hc h2 h3 hno hi0 hi1 HNI
    go_enter Tryd.func55, Tryd.ntmps55
    go_wp2_with fail
    have hwb := HWB.out
    rw [← hwb]
    clear hwb
    refine HSM.out.mono ?_
    rintro e w3 ⟨Al, cl, rfl, hAl, hlc, hnil, hb3⟩
    have hB3 := hB2.trans (hb3.mono hB2.size)
    have hk03 := (hb3.cell (p := ⟨w.heap.size, 0, none⟩) (block_lt hk0)).trans hk0
    have hk13 := (hb3.cell (p := ⟨w.heap.size, 1, none⟩) (block_lt hk1)).trans hk1
    have HD := Lib.hid (HDX.out w3 hB3)
    clear hk0 hk1 hAl hlc hnil
    go_wp2_with fail
    refine HD.out.mono ?_
    rintro e w4 ⟨A4, c4', rfl, hX, hb4⟩
    have hB4 := hB3.trans (hb4.mono hB3.size)
    clear HD hk03 hk13
    by_cases hE : E = 0
    · obtain ⟨hl1, hl2⟩ := HLEN.out hE
      have hEE : RE = 0 := HE1.out.trans hE
      have hRL : RL = P.getD j [] := by
        have := HE2.out
        rw [if_pos hE, Int.toNat_natCast] at this
        exact this
      subst hE
      have hjP : j < P.length := by have := HJ.out; omega
      have hjp : (j : Int) < (P.length : Int) := by omega
      have hPj : P[j]? = some P[j] := List.getElem?_eq_getElem hjP
      have hRj : RL = P[j] := by rw [hRL, List.getD_eq_getElem?_getD, hPj]; rfl
      generalize P[j] = r at *
      subst hRj hEE
      obtain ⟨vX, hX1, hX2⟩ := hX
      obtain ⟨bX, oX, rfl⟩ := some_of_at hX1 (by rw [hX2.1]; omega)
      obtain ⟨Y, cy, hcy, hY, _, _⟩ := head_at hX1 hX2 hPj
      clear hRL hPj hl1 hl2 hjP HE1 HE2 HLEN
      go_wp2_with fail
      go_ret2
      exact ⟨Y, cy, rfl, hY, hB4⟩
    · have hne : (E != 0) = true := by simpa using hE
      have hEE : RE = E := HE1.out
      have hRL : RL = [] := by
        have := HE2.out
        rwa [if_neg hE] at this
      subst hEE hRL
      clear hE HE1 HE2 HLEN
      go_wp2_with fail
      go_ret2
      exact ⟨none, 0, rfl, At.nil _ _, hB4⟩

end Go.Proofs.YtibidlgikecelaaDoor
