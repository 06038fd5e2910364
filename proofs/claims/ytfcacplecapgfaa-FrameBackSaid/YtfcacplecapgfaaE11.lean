/- Contracts: amphoraref05.Reader as a state: Num, list, Take. -/
import Derived.Test.YtfcacplecapgfaaE10
namespace Go.Proofs.Ytfcacplecapgfaa
open Go.RowKit
set_option linter.unusedVariables false
set_option linter.unusedSimpArgs false

/-- A reader's state: the bytes that are left, or none: it is bad. -/
def RdS (w : World) (pr : Nat) : Option (List B8) → Prop
  | some l => ∃ A c, RdAt w pr A c false l
  | none => ∃ A c l, RdAt w pr A c true l
/-- A part is read: its value and the state behind it. -/
def StepS (f : List B8 → Option (Nat × List B8)) (st : Option (List B8)) (m : Nat) (st' : Option (List B8)) : Prop :=
  (∀ n r, st.bind f = some (n, r) → m = n ∧ st' = some r) ∧ (st.bind f = none → st' = none)
/-- A call answers a number, and leaves a state. -/
def RNumS (w : World) (pr : Nat) (f : List B8 → Option (Nat × List B8)) (st : Option (List B8)) (e : Ending) (w' : World) : Prop :=
  ∃ (m : Nat) (st' : Option (List B8)), e = .returned (.int .i64 (m : Int)) ∧ RdS w' pr st' ∧ w.grownBy w' (some pr) ∧ StepS f st m st'
theorem rnumS_calls {w : World} {pr : Nat} {st : Option (List B8)} (h : RdS w pr st) :
    Calls Try.prog 38 #[.pointer (some ⟨pr, 0, none⟩)] w (RNumS w pr (numR 1152921504606846976) st) := by
  cases st with
  | none =>
    obtain ⟨A, c, l, h⟩ := h
    refine (rnum_isbad h).mono ?_
    rintro e w' ⟨hg, ⟨n, r, A', c', h1, _⟩ | ⟨_, m, A', c', l', rfl, hR⟩⟩
    · cases h1
    · exact ⟨m, none, rfl, ⟨A', c', l', hR⟩, hg, fun n r hh => by (cases hh), fun _ => rfl⟩
  | some l =>
    obtain ⟨A, c, h⟩ := h
    refine (rnum_calls h).mono ?_
    rintro e w' ⟨hg, ⟨n, r, A', c', h1, rfl, hR⟩ | ⟨h1, m, A', c', l', rfl, hR⟩⟩
    · refine ⟨n, some r, rfl, ⟨A', c', hR⟩, hg, fun n' r' hh => ?_, fun hh => ?_⟩
      · rw [Option.bind_some, h1] at hh
        injection hh with hh
        injection hh with h2 h3
        exact ⟨h2, by rw [h3]⟩
      · rw [Option.bind_some, h1] at hh
        cases hh
    · refine ⟨m, none, rfl, ⟨A', c', l', hR⟩, hg, fun n' r' hh => ?_, fun _ => rfl⟩
      rw [Option.bind_some, h1] at hh
      cases hh
theorem numR_most {most : Nat} (hm : most ≤ 1152921504606846976) (l : List B8) : numR most l = (numR 1152921504606846976 l).bind fun p => if most < p.1 then none else some p := by
  cases l with
  | nil => rfl
  | cons w l =>
    simp only [numR]
    by_cases h1 : 8 < w.toNat ∨ l.length < w.toNat
    · rw [if_pos h1, if_pos h1]; rfl
    · rw [if_neg h1, if_neg h1]
      by_cases h2 : (l.take w.toNat)[0]? = some 0#8
      · rw [if_pos h2, if_pos h2]; rfl
      · rw [if_neg h2, if_neg h2]
        by_cases h3 : 1152921504606846976 < valL (l.take w.toNat).reverse
        · rw [if_pos h3, if_pos (by omega)]; rfl
        · rw [if_neg h3]; rfl
theorem RdS.flag {w : World} {pr : Nat} {st : Option (List B8)} (h : RdS w pr st) : w.cell? ⟨pr, 1, none⟩ = some (.bool st.isNone) ∧ w.frozen? ⟨pr, 1, none⟩ = false := by
  cases st with
  | none =>
    obtain ⟨A, c, l, h⟩ := h
    exact ⟨cell_of_row _ _ 1 _ _ (0, 0) h.hd, frozen_of_row _ _ 1 _ _ h.hd⟩
  | some l =>
    obtain ⟨A, c, h⟩ := h
    exact ⟨cell_of_row _ _ 1 _ _ (0, 0) h.hd, frozen_of_row _ _ 1 _ _ h.hd⟩
theorem RdS.bad {w : World} {pr : Nat} {st : Option (List B8)} (h : RdS w pr st) : RdS (w.setCell ⟨pr, 1, none⟩ (.bool true)) pr none ∧ w.grownBy (w.setCell ⟨pr, 1, none⟩ (.bool true)) (some pr) := by
  cases st with
  | none =>
    obtain ⟨A, c, l, h⟩ := h
    exact ⟨⟨A, c, l, h.setBad.1⟩, h.setBad.2⟩
  | some l =>
    obtain ⟨A, c, h⟩ := h
    exact ⟨⟨A, c, l, h.setBad.1⟩, h.setBad.2⟩

set_option maxHeartbeats 800000 in
theorem rlistS_calls {w : World} {pr most : Nat} {st : Option (List B8)} (h : RdS w pr st) (hm : most ≤ 1152921504606846976) :
    Calls Try.prog 40 #[.pointer (some ⟨pr, 0, none⟩), .int .i64 (most : Int)] w fun e w' => ∃ (m : Nat) (st' : Option (List B8)), e = .returned (.int .i64 (m : Int)) ∧ RdS w' pr st' ∧ w.grownBy w' (some pr) ∧ StepS (numR most) st m st' ∧ m ≤ most := by
  have HN := Lib.hid (rnumS_calls h)
  go_enter Try.func40, Try.ntmps40
  go_wp2_with fail
  refine HN.out.mono ?_
  rintro e w2 ⟨m, st', rfl, hS, hg, hst⟩
  obtain ⟨hc, hf⟩ := hS.flag
  have HB := Lib.hid hS.bad
  have HST := Lib.hid hst
  clear hst HN h
  cases st' with
  | none =>
    simp only [Option.isNone_none] at hc
    go_wp2_with fail
    go_ret
    refine ⟨0, none, rfl, HB.out.1, grown_trans hg HB.out.2, ⟨fun n r hh => ?_, fun _ => rfl⟩, by omega⟩
    exfalso
    cases st with
    | none => cases hh
    | some l =>
      rw [Option.bind_some, numR_most hm] at hh
      cases hx : numR 1152921504606846976 l with
      | none => rw [hx] at hh; cases hh
      | some p =>
        have := (HST.out.1 p.1 p.2 (by rw [Option.bind_some, hx])).2
        cases this
  | some r =>
    simp only [Option.isNone_some] at hc
    have hex : ∃ l, st = some l ∧ numR 1152921504606846976 l = some (m, r) := by
      cases st with
      | none =>
        have := HST.out.2 rfl
        cases this
      | some l =>
        refine ⟨l, rfl, ?_⟩
        cases hx : numR 1152921504606846976 l with
        | none =>
          have := HST.out.2 (by rw [Option.bind_some, hx])
          cases this
        | some p =>
          obtain ⟨h1, h2⟩ := HST.out.1 p.1 p.2 (by rw [Option.bind_some, hx])
          injection h2 with h2
          rw [h1, h2]
    obtain ⟨l, rfl, hx⟩ := hex
    have HX := Lib.hid hx
    clear hx
    by_cases hbig : most < m
    · have hbi : (most : Int) < (m : Int) := by omega
      go_wp2_with fail
      go_ret
      refine ⟨0, none, rfl, HB.out.1, grown_trans hg HB.out.2, ⟨fun n r hh => ?_, fun _ => rfl⟩, by omega⟩
      rw [Option.bind_some, numR_most hm, HX.out, Option.bind_some, if_pos hbig] at hh
      cases hh
    · have hbi : ¬ ((most : Int) < (m : Int)) := by omega
      go_wp2_with fail
      go_ret
      refine ⟨m, some r, rfl, hS, hg, ⟨fun n r' hh => ?_, fun hh => ?_⟩, by omega⟩
      · rw [Option.bind_some, numR_most hm, HX.out, Option.bind_some, if_neg hbig] at hh
        injection hh with hh
        injection hh with h2 h3
        exact ⟨h2, by rw [h3]⟩
      · rw [Option.bind_some, numR_most hm, HX.out, Option.bind_some, if_neg hbig] at hh
        cases hh

end Go.Proofs.Ytfcacplecapgfaa
