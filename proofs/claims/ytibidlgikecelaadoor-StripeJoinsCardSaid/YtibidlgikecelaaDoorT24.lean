/- Contracts: reed.Decode, amphoraref03.Decode, of anything. -/
import Derived.Test.YtibidlgikecelaaDoorT23
import Derived.Test.YtibidlgikecelaaDoorRD
namespace Go.Proofs.YtibidlgikecelaaDoor
open Go.RowKit
set_option linter.unusedVariables false
set_option linter.unusedSimpArgs false

/-- How long the shards are that are there. -/
def widP (LL : List (List B8)) : Nat := lenAt LL ((presL LL LL.length).getD 0 0)
theorem okS_true {K M : Int} {LL : List (List B8)} (h : okS K M LL = true) : codeB K M ∧ (LL.length : Int) = K + M ∧ oddB LL (presL LL LL.length) = false := by
  unfold okS at h
  simp only [Bool.and_eq_true, decide_eq_true_eq, Bool.not_eq_true'] at h
  exact ⟨h.1.1, h.1.2, h.2⟩
theorem pres_at {LL : List (List B8)} {k : Nat} {l : List B8} (h : LL[k]? = some l) (hl : l ≠ []) : k ∈ presL LL LL.length := by
  have hk : k < LL.length := (List.getElem?_eq_some_iff.1 h).1
  unfold presL
  rw [List.mem_filter]
  refine ⟨List.mem_range.2 hk, decide_eq_true ?_⟩
  rw [List.getD_eq_getElem?_getD, h]
  exact hl
theorem odd_len {LL : List (List B8)} (h : oddB LL (presL LL LL.length) = false) {k : Nat} {l : List B8} (hk : LL[k]? = some l) (hl : l ≠ []) : l.length = widP LL := by
  obtain ⟨j, hj, he⟩ := List.getElem_of_mem (pres_at hk hl)
  have := oddB_len h j k (by rw [List.getElem?_eq_getElem hj, he])
  rw [lenAt_some hk] at this
  exact this
theorem widP_pos {LL : List (List B8)} (h : 0 < (presL LL LL.length).length) : 0 < widP LL := by
  have h0 : (presL LL LL.length)[0]? = some (presL LL LL.length)[0] := List.getElem?_eq_getElem h
  have hm := presL_mem (List.getElem_mem h)
  unfold widP
  rw [getD_some h0]
  unfold lenAt
  exact List.length_pos_iff.2 hm.2
theorem widP_le {LL : List (List B8)} {c : Nat} (h : ∀ l, l ∈ LL → l.length ≤ c) : widP LL ≤ c := by
  unfold widP lenAt
  rw [List.getD_eq_getElem?_getD]
  cases hx : LL[(presL LL LL.length).getD 0 0]? with
  | none => simp
  | some l => exact h l (List.mem_of_getElem? hx)
theorem shards_ok {w : World} {S : Option Addr} {vs : List Value} {LL : List (List B8)} (hA : At w S vs) (hT : Texts w vs LL) (h : oddB LL (presL LL LL.length) = false) : Shards w S vs LL LL.length (widP LL) (mxOf LL) := by
  refine ⟨hA, hT, rfl, fun k l hk => ?_⟩
  by_cases hl : l = []
  · exact .inl hl
  · right
    rw [mxOf_row hk, rowL_of (odd_len h hk hl)]
theorem shards_nil {w : World} {S : Option Addr} {vs : List Value} {LL : List (List B8)} (hA : At w S vs) (hT : Texts w vs LL) (h : (presL LL LL.length).length = 0) : Shards w S vs LL LL.length 1 (mxOf LL) := by
  refine ⟨hA, hT, rfl, fun k l hk => ?_⟩
  left
  rcases Classical.em (l = []) with hl | hl
  · exact hl
  · have := pres_at hk hl
    rw [List.length_eq_zero_iff.1 h] at this
    cases this

/-- The shards that Decode answers, and its error. -/
def decE (K M : Int) (LL : List (List B8)) : Int := if okS K M LL = false then 1 else if ((presL LL LL.length).length : Int) < K then 30 else 0
def decL (K M : Int) (LL : List (List B8)) : List (List B8) := if decE K M LL = 0 then rowsL LL.length (widP LL) (mulM K.toNat (genM K.toNat) (decD K.toNat ((presL LL LL.length).take K.toNat) (mxOf LL))) else []
theorem decL_len {K M : Int} {LL : List (List B8)} (h : decE K M LL = 0) : ((decL K M LL).length : Int) = K + M ∧ (decL K M LL).length ≤ 255 := by
  unfold decL
  rw [if_pos h, length_rowsL]
  unfold decE at h
  split at h
  · cases h
  · rename_i hh
    obtain ⟨⟨c1, c2, c3, c4⟩, h2, _⟩ := okS_true (by simpa using hh)
    omega
theorem decL_le (K M : Int) (LL : List (List B8)) : (decL K M LL).length ≤ 255 := by
  by_cases h : decE K M LL = 0
  · exact (decL_len h).2
  · unfold decL; rw [if_neg h]; simp

set_option maxHeartbeats 1000000 in
set_option maxRecDepth 100000 in
theorem decode_bad {w : World} {K M : Int} {N cS : Nat} {S : Option Addr} {LL : List (List B8)} (hS : LAt w S LL) (hN : N = LL.length) (h : okS K M LL = false) :
    Calls Tryd.prog 53 #[.agg #[.int .i64 K, .int .i64 M], .slice S N cS] w (RetE w 1) := by
  obtain ⟨wb, hwb, hB2, hk0, hk1, hbox, hsz⟩ := enc_boxes w K M (.slice S N cS)
  have HWB := Lib.hid hwb
  clear hwb
  have HSM := Lib.hid (some_x (w := wb) (K := K) (M := M) (cS := cS) (hS.below hB2) hN)
  rw [h] at HSM
  clear h hN hS
  go_enter Tryd.func53, Tryd.ntmps53
  go_wp2_with fail
  have hwb := HWB.out
  rw [← hwb]
  clear hwb
  refine HSM.out.mono ?_
  rintro e w3 ⟨rfl, hb3⟩
  go_wp2_with fail
  go_ret2
  exact ⟨rfl, hB2.trans (hb3.mono hB2.size)⟩
set_option maxHeartbeats 1000000 in
set_option maxRecDepth 100000 in
theorem rdecode_bad {w : World} {K M : Int} {N cS : Nat} {S : Option Addr} {LL : List (List B8)} (hS : LAt w S LL) (hN : N = LL.length) (h : okS K M LL = false) :
    Calls Tryd.prog 54 #[.agg #[.int .i64 K, .int .i64 M], .slice S N cS] w (RetE w 1) := by
  obtain ⟨wb, hwb, hB2, hk0, hk1, hsz⟩ := code_box w K M
  have HWB := Lib.hid hwb
  clear hwb
  have HSM := Lib.hid (rsome_x (w := wb) (K := K) (M := M) (cS := cS) (hS.below hB2) hN)
  rw [h] at HSM
  clear h hN hS
  go_enter Tryd.func54, Tryd.ntmps54
  go_wp2_with fail
  have hwb := HWB.out
  rw [← hwb]
  clear hwb
  refine HSM.out.mono ?_
  rintro e w3 ⟨rfl, hb3⟩
  go_wp2_with fail
  go_ret2
  exact ⟨rfl, hB2.trans (hb3.mono hB2.size)⟩

set_option maxHeartbeats 1000000 in
set_option maxRecDepth 100000 in
theorem rdecode_few {w : World} {K M N cS : Nat} {S : Option Addr} {vs : List Value} {LL : List (List B8)} (hA : At w S vs) (hT : Texts w vs LL) (hN : N = LL.length) (hNK : N = K + M) (hK : 1 ≤ K) (hKM : K + M ≤ 255) (hod : oddB LL (presL LL N) = false) (hp : (presL LL N).length < K) :
    Calls Tryd.prog 54 #[.agg #[.int .i64 (K : Int), .int .i64 (M : Int)], .slice S N cS] w (RetE w 30) := by
  obtain ⟨wb, hwb, hB2, hk0, hk1, hsz⟩ := code_box w (K : Int) (M : Int)
  have HWB := Lib.hid hwb
  clear hwb
  have HSM := Lib.hid (rsome_gen (cS := cS) (hA.below hB2) (hT.below hB2) hN hNK hK hKM (Lib.hid hod))
  generalize presL LL N = pl at *
  have hfew : (pl.length : Int) < (K : Int) := by omega
  clear hod hN hNK hA hT
  go_enter Tryd.func54, Tryd.ntmps54
  go_wp2_with fail
  have hwb := HWB.out
  rw [← hwb]
  clear hwb
  refine HSM.out.mono ?_
  rintro e w3 ⟨Al, cl, rfl, hAl, hlc, hnil, hb3⟩
  have hB3 := hB2.trans (hb3.mono hB2.size)
  have hk03 := (hb3.cell (p := ⟨w.heap.size, 0, none⟩) (block_lt hk0)).trans hk0
  clear hk0 hk1 hAl
  go_wp2_with fail
  go_ret2
  exact ⟨rfl, hB3⟩

theorem decode_x {w : World} {K M : Int} {N cS : Nat} {S : Option Addr} {LL : List (List B8)} (hS : LAt w S LL) (hN : N = LL.length) (hc : ∀ l, l ∈ LL → l.length ≤ 1000) (hF : FoldAt w) :
    Calls Tryd.prog 53 #[.agg #[.int .i64 K, .int .i64 M], .slice S N cS] w (RetOw w (decL K M LL) (decE K M LL)) := by
  cases hok : okS K M LL with
  | false =>
    have he : decE K M LL = 1 := by unfold decE; rw [if_pos hok]
    have hl : decL K M LL = [] := by unfold decL; rw [he]; rfl
    rw [he, hl]
    exact (decode_bad hS hN hok).mono fun e w' h => .no h
  | true =>
    obtain ⟨⟨c1, c2, c3, c4⟩, h2, h3⟩ := okS_true hok
    obtain ⟨K, rfl⟩ := Int.eq_ofNat_of_zero_le (by omega : 0 ≤ K)
    obtain ⟨M, rfl⟩ := Int.eq_ofNat_of_zero_le (by omega : 0 ≤ M)
    obtain ⟨vs, hA, hT⟩ := hS
    subst hN
    by_cases hp : (presL LL LL.length).length < K
    · have he : decE (K : Int) (M : Int) LL = 30 := by unfold decE; rw [if_neg (by rw [hok]; decide), if_pos (by omega)]
      have hl : decL (K : Int) (M : Int) LL = [] := by unfold decL; rw [he]; rfl
      rw [he, hl]
      by_cases h0 : (presL LL LL.length).length = 0
      · exact (decode_few (shards_nil hA hT h0) (by omega) (by omega) (by omega) (by decide) hp).mono fun e w' h => .no h
      · exact (decode_few (shards_ok hA hT h3) (by omega) (by omega) (by omega) (widP_pos (by omega)) hp).mono fun e w' h => .no h
    · have he : decE (K : Int) (M : Int) LL = 0 := by unfold decE; rw [if_neg (by rw [hok]; decide), if_neg (by omega)]
      have hl : decL (K : Int) (M : Int) LL = rowsL LL.length (widP LL) (mulM K (genM K) (decD K ((presL LL LL.length).take K) (mxOf LL))) := by unfold decL; rw [if_pos he]; rfl
      rw [he, hl]
      exact (decode_gen (shards_ok hA hT h3) (by omega) (by omega) (by omega) (widP_pos (by omega)) (widP_le hc) (by omega) hF).mono fun e w' h => .inr ⟨_, _, _, by omega, widP_le hc, rfl, rfl, h⟩
theorem rdecode_x {w : World} {K M : Int} {N cS : Nat} {S : Option Addr} {LL : List (List B8)} (hS : LAt w S LL) (hN : N = LL.length) (hc : ∀ l, l ∈ LL → l.length ≤ 1000) (hF : FoldAt w) :
    Calls Tryd.prog 54 #[.agg #[.int .i64 K, .int .i64 M], .slice S N cS] w (RetL w (decL K M LL) (decE K M LL)) := by
  cases hok : okS K M LL with
  | false =>
    have he : decE K M LL = 1 := by unfold decE; rw [if_pos hok]
    have hl : decL K M LL = [] := by unfold decL; rw [he]; rfl
    rw [he, hl]
    exact (rdecode_bad hS hN hok).mono fun e w' h => (RetE.x h).l
  | true =>
    obtain ⟨⟨c1, c2, c3, c4⟩, h2, h3⟩ := okS_true hok
    obtain ⟨K, rfl⟩ := Int.eq_ofNat_of_zero_le (by omega : 0 ≤ K)
    obtain ⟨M, rfl⟩ := Int.eq_ofNat_of_zero_le (by omega : 0 ≤ M)
    obtain ⟨vs, hA, hT⟩ := hS
    subst hN
    by_cases hp : (presL LL LL.length).length < K
    · have he : decE (K : Int) (M : Int) LL = 30 := by unfold decE; rw [if_neg (by rw [hok]; decide), if_pos (by omega)]
      have hl : decL (K : Int) (M : Int) LL = [] := by unfold decL; rw [he]; rfl
      rw [he, hl]
      exact (rdecode_few hA hT rfl (by omega) (by omega) (by omega) h3 hp).mono fun e w' h => (RetE.x h).l
    · have he : decE (K : Int) (M : Int) LL = 0 := by unfold decE; rw [if_neg (by rw [hok]; decide), if_neg (by omega)]
      have hl : decL (K : Int) (M : Int) LL = rowsL LL.length (widP LL) (mulM K (genM K) (decD K ((presL LL LL.length).take K) (mxOf LL))) := by unfold decL; rw [if_pos he]; rfl
      rw [he, hl]
      exact (rdecode_calls (shards_ok hA hT h3) (by omega) (by omega) (by omega) (widP_pos (by omega)) (widP_le hc) (by omega) h3).mono fun e w' h => h.l
/-- A call answers bytes, and an error's number. -/
def RetBy (w : World) (l : List B8) (err : Int) (e : Ending) (w' : World) : Prop :=
  ∃ A cap, e = .returned (.tuple #[.slice A l.length cap, .int .i64 err]) ∧ At w' A (bys l) ∧ Below w.heap.size w w'

end Go.Proofs.YtibidlgikecelaaDoor
