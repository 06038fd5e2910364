/- Contracts: matrix.is. -/
import Derived.Test.YtibidlgikecelaaDoorW4
namespace Go.Proofs.YtibidlgikecelaaDoor
open Go.RowKit
set_option linter.unusedVariables false
set_option linter.unusedSimpArgs false

set_option maxHeartbeats 400000 in
theorem is1_calls {w : World} {g b off n c lx cx l0 c0 : Nat} {X A0 : Option Addr} (hg : w.cell? ⟨g, 0, none⟩ = some (.slice (some ⟨b, off, none⟩) n c)) (h0 : w.cell? ⟨b, off, none⟩ = some (.slice A0 l0 c0)) (hn : 0 < n) :
    Calls Tryd.prog 88 #[.slice X lx cx, .pointer (some ⟨g, 0, none⟩)] w fun e w' => e = .returned (.bool ((lx : Int) != (l0 : Int))) ∧ w = w' := by
  have hni : (0 : Int) < (n : Int) := by omega
  go_enter Tryd.func88, Tryd.ntmps88
  go_wp2_with fail
  go_ret
  exact ⟨rfl, rfl⟩

theorem some_of_at {w : World} {A : Option Addr} {vs : List Value} (h : At w A vs) (hne : 0 < vs.length) : ∃ b off, A = some ⟨b, off, none⟩ := by
  obtain ⟨b, off, he, _⟩ := h 0 vs[0] (List.getElem?_eq_getElem hne)
  exact ⟨b, off, he⟩
/-- The first row of another length, and -1 where there is none. -/
def oddRow (L : List (List B8)) (l0 : Nat) : Int := match L.findIdx? fun r => decide (r.length ≠ l0) with | some k => (k : Int) | none => -1

theorem oddRow_at {L : List (List B8)} {l0 j : Nat} {l : List B8} (hl : L[j]? = some l) (hne : l.length ≠ l0) (h : ∀ (i : Nat) (r : List B8), i < j → L[i]? = some r → r.length = l0) : oddRow L l0 = (j : Int) := by
  unfold oddRow
  have : L.findIdx? (fun r => decide (r.length ≠ l0)) = some j := by
    rw [List.findIdx?_eq_some_iff_getElem]
    obtain ⟨hj, he⟩ := List.getElem?_eq_some_iff.1 hl
    refine ⟨hj, by rw [he]; simpa using hne, fun i hi => ?_⟩
    have := h i _ hi (List.getElem?_eq_getElem (by omega))
    simpa using this
  rw [this]
theorem oddRow_no {L : List (List B8)} {l0 : Nat} (h : ∀ (i : Nat) (r : List B8), i < L.length → L[i]? = some r → r.length = l0) : oddRow L l0 = -1 := by
  unfold oddRow
  have : L.findIdx? (fun r => decide (r.length ≠ l0)) = none := by
    rw [List.findIdx?_eq_none_iff]
    intro r hr
    obtain ⟨i, hi, rfl⟩ := List.getElem_of_mem hr
    have := h i _ hi (List.getElem?_eq_getElem hi)
    simpa using this
  rw [this]

set_option maxHeartbeats 400000 in
set_option maxRecDepth 100000 in
theorem isidx_calls {w : World} {g b off n c l0 c0 : Nat} {A0 : Option Addr} {vs : List Value} {L : List (List B8)} (hA : At w (some ⟨b, off, none⟩) vs) (hL : Texts w vs L) (hn : n = L.length) (hmax : L.length ≤ 255)
    (hg : w.cell? ⟨g, 0, none⟩ = some (.slice (some ⟨b, off, none⟩) n c)) (h0 : w.cell? ⟨b, off, none⟩ = some (.slice A0 l0 c0)) :
    Calls Tryd.prog 63 #[.slice (some ⟨b, off, none⟩) n c, .func (.func 88) #[] #[.pointer (some ⟨g, 0, none⟩)]] w fun e w' => e = .returned (.int .i64 (oddRow L l0)) ∧ w = w' := by
  subst hn
  have hvl := hL.1
  generalize hr : oddRow L l0 = r
  have HR := Lib.hid hr
  clear hr
  go_enter Tryd.func63, Tryd.ntmps63
  go_wp2_with fail
  go_loop [8] (fun s8 => ∃ j : Nat, j ≤ L.length ∧ s8 = .int .i64 ((j : Nat) : Int) ∧ ∀ (i : Nat) (r : List B8), i < j → L[i]? = some r → r.length = l0) (fun s8 => L.length - (intOf s8).toNat)
  case atStart => exact ⟨0, by omega, rfl, by intro i r hi; omega⟩
  case round =>
    obtain ⟨j, hj, rfl, hall⟩ := hrel
    by_cases hjl : j < L.length
    · obtain ⟨l, hl, X, cx, hv, hXA, hX2, hX3, hX4⟩ := hL.get (by omega : j < vs.length)
      obtain ⟨b', o', he, hc⟩ := hA j _ (List.getElem?_eq_getElem (by omega : j < vs.length))
      cases he
      rw [hv] at hc
      have hji : (j : Int) < (L.length : Int) := by omega
      have hj0 : (0 : Int) ≤ (j : Int) := by omega
      have hc1 := fun X' cx' => is1_calls (X := X') (cx := cx') (lx := l.length) hg h0 (by omega)
      have HALL := Lib.hid hall
      have HL := Lib.hid hl
      by_cases hll : l.length = l0
      · rw [show ((l.length : Int) != (l0 : Int)) = false by simp; omega] at hc1
        have HC := Lib.hid hc1
        have HLL := Lib.hid hll
        clear hc1 hall hl hll hv
        go_wp2_with (go_at_call 88; refine (HC.out _ _).mono ?_; rintro e w' ⟨rfl, rfl⟩)
        refine ⟨⟨j + 1, by omega, by go_num, fun i r hi hr => ?_⟩, by simp [intOf]; omega⟩
        by_cases hij : i < j
        · exact HALL.out i r hij hr
        · obtain rfl : i = j := by omega
          rw [HL.out] at hr
          cases hr
          exact HLL.out
      · rw [show ((l.length : Int) != (l0 : Int)) = true by simp; omega] at hc1
        have HC := Lib.hid hc1
        have HLL := Lib.hid hll
        clear hc1 hall hl hll hv
        go_wp2_with (go_at_call 88; refine (HC.out _ _).mono ?_; rintro e w' ⟨rfl, rfl⟩)
        go_ret
        refine ⟨ret_int ?_, rfl⟩
        rw [← HR.out]
        exact (oddRow_at HL.out HLL.out HALL.out).symm
    · obtain rfl : j = L.length := by omega
      have HALL := Lib.hid hall
      clear hall
      go_wp2_with fail
      go_ret
      refine ⟨ret_int ?_, rfl⟩
      rw [← HR.out]
      exact (oddRow_no HALL.out).symm

end Go.Proofs.YtibidlgikecelaaDoor
