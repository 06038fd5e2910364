/- Contracts: amphoraref05.Reader: Take. -/
import Derived.Test.YtfcacplecapgfaaE8
namespace Go.Proofs.Ytfcacplecapgfaa
open Go.RowKit
set_option linter.unusedVariables false
set_option linter.unusedSimpArgs false

theorem At.grown' {w w' : World} {A : Option Addr} {vs : List Value} {row : Option Nat} (h : At w A vs) (hg : w.grownBy w' row) (hne : ∀ b off, A = some ⟨b, off, none⟩ → some b ≠ row) : At w' A vs := by
  intro i x hx
  obtain ⟨b, off, rfl, hc⟩ := h i x hx
  exact ⟨b, off, rfl, (World.cell?_of_block (hg.block b (block_lt hc) (hne b off rfl))).trans hc⟩
/-- A reader that has bytes left. -/
structure RdAt (w : World) (pr : Nat) (A : Option Addr) (c : Nat) (bad : Bool) (l : List B8) : Prop where
  hd : w.heap[pr]? = some (.cells #[.slice A l.length c, .bool bad] 64 (0, 0))
  at' : At w A (bys l)
  far : ∀ b off, A = some ⟨b, off, none⟩ → b < pr
  len : l.length ≤ c
  nil : A = none → c = 0
  spot : ∀ a, A = some a → a.spot = none
theorem cutA_zero (X : Option Addr) (c : Nat) : cutA X 0 c = X := by
  unfold cutA
  split
  · rfl
  · cases X with
    | none => rfl
    | some a => simp [Addr.add]
theorem cutA_far {A : Option Addr} {n c pr : Nat} (h : ∀ b off, A = some ⟨b, off, none⟩ → b < pr) (hs : ∀ a, A = some a → a.spot = none) : ∀ b off, cutA A n c = some ⟨b, off, none⟩ → b < pr := by
  intro b off he
  unfold cutA at he
  split at he
  · exact h b off he
  · cases A with
    | none => cases he
    | some a =>
      obtain ⟨b', off', sp⟩ := a
      have := hs _ rfl
      simp only at this
      subst this
      simp only [Option.map_some, Option.some.injEq, Addr.add] at he
      split at he
      · injection he with h1 h2
        subst h1
        exact h b' _ rfl
      · injection he with h1 h2
        subst h1
        exact h b' _ rfl

set_option maxHeartbeats 400000 in
set_option maxRecDepth 100000 in
theorem rtake_bad {w : World} {pr c : Nat} {A : Option Addr} {bad : Bool} {l : List B8} (n : Int) (h : RdAt w pr A c bad l) (hb : bad = true ∨ n < 0 ∨ (l.length : Int) < n) :
    Calls Try.prog 39 #[.pointer (some ⟨pr, 0, none⟩), .int .i64 n] w fun e w' => e = .returned (.slice none 0 0) ∧ RdAt w' pr A c true l ∧ w.grownBy w' (some pr) := by
  have h0 := cell_of_row _ _ 0 _ _ (0, 0) h.hd
  have h1 := cell_of_row _ _ 1 _ _ (0, 0) h.hd
  have hf := frozen_of_row _ _ 1 _ _ h.hd
  simp only [List.getElem?_toArray, List.getElem?_cons_succ, List.getElem?_cons_zero] at h0 h1
  have hset := heap_setCell_same w pr 1 _ _ (.bool true) h.hd
  have hg := grown_set w pr 1 (.bool true)
  have hR : RdAt (w.setCell ⟨pr, 1, none⟩ (.bool true)) pr A c true l := ⟨hset, h.at'.grown' hg (fun b off he hh => by injection hh with hh; have := h.far b off he; omega), h.far, h.len, h.nil, h.spot⟩
  have HG := Lib.hid hg
  clear h hset hg
  have hcase : bad = true ∨ (bad = false ∧ n < 0) ∨ (bad = false ∧ ¬ n < 0 ∧ (l.length : Int) < n) := by
    cases bad with
    | true => exact .inl rfl
    | false =>
      rcases hb with h | h | h
      · cases h
      · exact .inr (.inl ⟨rfl, h⟩)
      · by_cases h2 : n < 0
        · exact .inr (.inl ⟨rfl, h2⟩)
        · exact .inr (.inr ⟨rfl, h2, h⟩)
  clear hb
  rcases hcase with rfl | ⟨rfl, h2⟩ | ⟨rfl, h2, h3⟩
  all_goals
    go_enter Try.func39, Try.ntmps39
    go_wp2_with fail
    go_ret
    exact ⟨rfl, hR, HG.out⟩

set_option maxHeartbeats 400000 in
set_option maxRecDepth 100000 in
theorem rtake_good {w : World} {pr c : Nat} {A : Option Addr} {l : List B8} (n : Nat) (h : RdAt w pr A c false l) (hn : n ≤ l.length) :
    Calls Try.prog 39 #[.pointer (some ⟨pr, 0, none⟩), .int .i64 (n : Int)] w fun e w' => e = .returned (.slice A n c) ∧ RdAt w' pr (cutA A n c) (c - n) false (l.drop n) ∧ w.grownBy w' (some pr) := by
  have h0 := cell_of_row _ _ 0 _ _ (0, 0) h.hd
  have h1 := cell_of_row _ _ 1 _ _ (0, 0) h.hd
  have hf := frozen_of_row _ _ 0 _ _ h.hd
  simp only [List.getElem?_toArray, List.getElem?_cons_succ, List.getElem?_cons_zero] at h0 h1
  have hlc := h.len
  have hset := heap_setCell_same w pr 0 _ _ (.slice (cutA A n c) (l.length - n) (c - n)) h.hd
  have hg := grown_set w pr 0 (.slice (cutA A n c) (l.length - n) (c - n))
  have hR : RdAt (w.setCell ⟨pr, 0, none⟩ (.slice (cutA A n c) (l.length - n) (c - n))) pr (cutA A n c) (c - n) false (l.drop n) := by
    refine ⟨by rw [List.length_drop]; exact hset, ?_, cutA_far h.far h.spot, by rw [List.length_drop]; omega, ?_, ?_⟩
    · have := (h.at'.drop n c (by simpa using hlc)).grown' hg (fun b off he hh => by injection hh with hh; have := cutA_far h.far h.spot b off he; omega)
      rwa [bys_drop] at this
    · intro he
      unfold cutA at he
      split at he
      · have := h.nil he; omega
      · cases A with
        | none => have := h.nil rfl; omega
        | some a => cases he
    · intro a he
      unfold cutA at he
      split at he
      · exact h.spot a he
      · cases A with
        | none => cases he
        | some b =>
          obtain ⟨b', off', sp⟩ := b
          have := h.spot _ rfl
          simp only at this
          subst this
          simp only [Option.map_some, Option.some.injEq, Addr.add] at he
          split at he <;> (subst he; rfl)
  have HG := Lib.hid hg
  have hn0 : ¬ ((n : Int) < 0) := by omega
  have hnl : ¬ ((l.length : Int) < (n : Int)) := by omega
  have hcut1 : ∀ w, (Instr.sliceAt 28 (.slice A l.length c) none (some (.int .i64 (n : Int))) none).run Try.prog w = .ok (.slice A n c) w := fun w => cut_eq 0 n (.inl ⟨rfl, rfl⟩) (.inr rfl) (by omega) (by omega) (cutA_zero A c) (by omega) (by omega) w
  have hcut2 : ∀ w, (Instr.sliceAt 28 (.slice A l.length c) (some (.int .i64 (n : Int))) none none).run Try.prog w = .ok (.slice (cutA A n c) (l.length - n) (c - n)) w := fun w => cut_eq n l.length (.inr rfl) (.inl ⟨rfl, rfl⟩) (by omega) (by omega) rfl rfl rfl w
  clear h hset hg hlc
  go_enter Try.func39, Try.ntmps39
  go_wp2_with fail
  go_ret
  exact ⟨rfl, hR, HG.out⟩

end Go.Proofs.Ytfcacplecapgfaa
