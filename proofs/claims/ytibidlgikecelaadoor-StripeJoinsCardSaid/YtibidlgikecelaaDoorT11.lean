/- Contracts of products, inverses and rows, of anything. -/
import Derived.Test.YtibidlgikecelaaDoorT10
namespace Go.Proofs.YtibidlgikecelaaDoor
open Go.RowKit
set_option linter.unusedVariables false
set_option linter.unusedSimpArgs false

theorem ris_v {w : World} {A : Option Addr} {n c : Nat} {vs : List Value} {L : List (List B8)} (hA : At w A vs) (hL : Texts w vs L) (hn : n = L.length) :
    Calls Tryd.prog 75 #[.slice A n c] w (RetV w (.bool (isB L))) := (ris_calls hA hL hn).mono fun e w' ⟨h1, h2⟩ => ⟨h1, h2 ▸ Below.refl _ _⟩
set_option maxHeartbeats 800000 in
set_option maxRecDepth 100000 in
theorem mul_bad {w : World} {A B : Option Addr} {n m cA cB : Nat} {vA vB : List Value} {LA LB : List (List B8)} (hA : At w A vA) (hLA : Texts w vA LA) (hB : At w B vB) (hLB : Texts w vB LB) (hn : n = LA.length) (hm : m = LB.length)
    (h : ¬ (isB LA = true ∧ isB LB = true ∧ widL LA = LB.length)) : Calls Tryd.prog 24 #[.slice A n cA, .slice B m cB] w (RetE w 1) := by
  have hisA := Lib.hid (is_calls (c := cA) hA hLA hn)
  have hisB := Lib.hid (fun (w1 : World) (hb : Below w.heap.size w w1) => is_calls (w := w1) (c := cB) (hB.below hb) (hLB.below hb) hm)
  cases hbA : isB LA with
  | false =>
    rw [hbA] at hisA
    clear h hbA hn hm hA hLA hB hLB hisB
    go_enter Tryd.func24, Tryd.ntmps24
    go_wp2_with fail
    refine hisA.out.mono ?_
    rintro e w1 ⟨rfl, hb1⟩
    go_wp2_with fail
    go_ret2
    exact ⟨rfl, hb1⟩
  | true =>
    rw [hbA] at hisA
    cases hbB : isB LB with
    | false =>
      rw [hbB] at hisB
      clear h hbA hbB hn hm hA hLA hB hLB
      go_enter Tryd.func24, Tryd.ntmps24
      go_wp2_with fail
      refine hisA.out.mono ?_
      rintro e w1 ⟨rfl, hb1⟩
      go_wp2_with fail
      refine (hisB.out w1 hb1).mono ?_
      rintro e w2 ⟨rfl, hb2⟩
      go_wp2_with fail
      go_ret2
      exact ⟨rfl, hb1.trans (hb2.mono hb1.size)⟩
    | true =>
      rw [hbB] at hisB
      have hs := isB_shape hbA
      have h0 : LA[0]? = some LA[0] := List.getElem?_eq_getElem hs.1
      have hw : widL LA = LA[0].length := by unfold widL; rw [List.getD_eq_getElem?_getD, h0]; rfl
      obtain ⟨b, off, rfl, hbl⟩ := heads_some hA hLA hs.1
      generalize LA[0] = l0 at *
      obtain ⟨X, cx, hc, _, _, _⟩ := head_at hA hLA h0
      rw [Nat.add_zero] at hc
      have hne : ((l0.length : Int) != (m : Int)) = true := by
        have : l0.length ≠ m := fun he => h ⟨hbA, hbB, by rw [hw, he, hm]⟩
        simp; omega
      have hni : (0 : Int) < (n : Int) := by omega
      clear h hbA hbB hn hm hA hLA hB hLB hw h0 hs
      go_enter Tryd.func24, Tryd.ntmps24
      go_wp2_with fail
      refine hisA.out.mono ?_
      rintro e w1 ⟨rfl, hb1⟩
      go_wp2_with fail
      refine (hisB.out w1 hb1).mono ?_
      rintro e w2 ⟨rfl, hb2⟩
      have hB2 := hb1.trans (hb2.mono hb1.size)
      have hc2 := (hB2.cell (p := ⟨b, off, none⟩) hbl).trans hc
      clear hc
      go_wp2_with fail
      go_ret2
      exact ⟨rfl, hB2⟩
set_option maxHeartbeats 800000 in
set_option maxRecDepth 100000 in
theorem rmul_bad {w : World} {A B : Option Addr} {n m cA cB : Nat} {vA vB : List Value} {LA LB : List (List B8)} (hA : At w A vA) (hLA : Texts w vA LA) (hB : At w B vB) (hLB : Texts w vB LB) (hn : n = LA.length) (hm : m = LB.length)
    (h : ¬ (isB LA = true ∧ isB LB = true ∧ widL LA = LB.length)) : Calls Tryd.prog 46 #[.slice A n cA, .slice B m cB] w (RetE w 1) := by
  have hisA := Lib.hid (ris_v (c := cA) hA hLA hn)
  have hisB := Lib.hid (fun (w1 : World) (hb : Below w.heap.size w w1) => ris_v (w := w1) (c := cB) (hB.below hb) (hLB.below hb) hm)
  cases hbA : isB LA with
  | false =>
    rw [hbA] at hisA
    clear h hbA hn hm hA hLA hB hLB hisB
    go_enter Tryd.func46, Tryd.ntmps46
    go_wp2_with fail
    refine hisA.out.mono ?_
    rintro e w1 ⟨rfl, hb1⟩
    go_wp2_with fail
    go_ret2
    exact ⟨rfl, hb1⟩
  | true =>
    rw [hbA] at hisA
    cases hbB : isB LB with
    | false =>
      rw [hbB] at hisB
      clear h hbA hbB hn hm hA hLA hB hLB
      go_enter Tryd.func46, Tryd.ntmps46
      go_wp2_with fail
      refine hisA.out.mono ?_
      rintro e w1 ⟨rfl, hb1⟩
      go_wp2_with fail
      refine (hisB.out w1 hb1).mono ?_
      rintro e w2 ⟨rfl, hb2⟩
      go_wp2_with fail
      go_ret2
      exact ⟨rfl, hb1.trans (hb2.mono hb1.size)⟩
    | true =>
      rw [hbB] at hisB
      have hs := isB_shape hbA
      have h0 : LA[0]? = some LA[0] := List.getElem?_eq_getElem hs.1
      have hw : widL LA = LA[0].length := by unfold widL; rw [List.getD_eq_getElem?_getD, h0]; rfl
      obtain ⟨b, off, rfl, hbl⟩ := heads_some hA hLA hs.1
      generalize LA[0] = l0 at *
      obtain ⟨X, cx, hc, _, _, _⟩ := head_at hA hLA h0
      rw [Nat.add_zero] at hc
      have hne : ((l0.length : Int) != (m : Int)) = true := by
        have : l0.length ≠ m := fun he => h ⟨hbA, hbB, by rw [hw, he, hm]⟩
        simp; omega
      have hni : (0 : Int) < (n : Int) := by omega
      clear h hbA hbB hn hm hA hLA hB hLB hw h0 hs
      go_enter Tryd.func46, Tryd.ntmps46
      go_wp2_with fail
      refine hisA.out.mono ?_
      rintro e w1 ⟨rfl, hb1⟩
      go_wp2_with fail
      refine (hisB.out w1 hb1).mono ?_
      rintro e w2 ⟨rfl, hb2⟩
      have hB2 := hb1.trans (hb2.mono hb1.size)
      have hc2 := (hB2.cell (p := ⟨b, off, none⟩) hbl).trans hc
      clear hc
      go_wp2_with fail
      go_ret2
      exact ⟨rfl, hB2⟩
set_option maxHeartbeats 800000 in
set_option maxRecDepth 100000 in
theorem invert_bad {w : World} {A : Option Addr} {n cA : Nat} {vA : List Value} {LA : List (List B8)} (hA : At w A vA) (hLA : Texts w vA LA) (hn : n = LA.length)
    (h : ¬ (isB LA = true ∧ LA.length = widL LA)) : Calls Tryd.prog 27 #[.slice A n cA] w (RetE w 1) := by
  have hisA := Lib.hid (is_calls (c := cA) hA hLA hn)
  cases hbA : isB LA with
  | false =>
    rw [hbA] at hisA
    clear h hbA hn hA hLA
    go_enter Tryd.func27, Tryd.ntmps27
    go_wp2_with fail
    refine hisA.out.mono ?_
    rintro e w1 ⟨rfl, hb1⟩
    go_wp2_with fail
    go_ret2
    exact ⟨rfl, hb1⟩
  | true =>
    rw [hbA] at hisA
    have hs := isB_shape hbA
    have h0 : LA[0]? = some LA[0] := List.getElem?_eq_getElem hs.1
    have hw : widL LA = LA[0].length := by unfold widL; rw [List.getD_eq_getElem?_getD, h0]; rfl
    obtain ⟨b, off, rfl, hbl⟩ := heads_some hA hLA hs.1
    generalize LA[0] = l0 at *
    obtain ⟨X, cx, hc, _, _, _⟩ := head_at hA hLA h0
    rw [Nat.add_zero] at hc
    have hne : ((n : Int) != (l0.length : Int)) = true := by
      have : n ≠ l0.length := fun he => h ⟨hbA, by rw [hw, ← he, hn]⟩
      simp; omega
    have hni : (0 : Int) < (n : Int) := by omega
    clear h hbA hn hA hLA hw h0 hs
    go_enter Tryd.func27, Tryd.ntmps27
    go_wp2_with fail
    refine hisA.out.mono ?_
    rintro e w1 ⟨rfl, hb1⟩
    have hc2 := (hb1.cell (p := ⟨b, off, none⟩) hbl).trans hc
    clear hc
    go_wp2_with fail
    go_ret2
    exact ⟨rfl, hb1⟩
set_option maxHeartbeats 800000 in
set_option maxRecDepth 100000 in
theorem rinvert_bad {w : World} {A : Option Addr} {n cA : Nat} {vA : List Value} {LA : List (List B8)} (hA : At w A vA) (hLA : Texts w vA LA) (hn : n = LA.length)
    (h : ¬ (isB LA = true ∧ LA.length = widL LA)) : Calls Tryd.prog 41 #[.slice A n cA] w (RetE w 1) := by
  have hisA := Lib.hid (ris_v (c := cA) hA hLA hn)
  cases hbA : isB LA with
  | false =>
    rw [hbA] at hisA
    clear h hbA hn hA hLA
    go_enter Tryd.func41, Tryd.ntmps41
    go_wp2_with fail
    refine hisA.out.mono ?_
    rintro e w1 ⟨rfl, hb1⟩
    go_wp2_with fail
    go_ret2
    exact ⟨rfl, hb1⟩
  | true =>
    rw [hbA] at hisA
    have hs := isB_shape hbA
    have h0 : LA[0]? = some LA[0] := List.getElem?_eq_getElem hs.1
    have hw : widL LA = LA[0].length := by unfold widL; rw [List.getD_eq_getElem?_getD, h0]; rfl
    obtain ⟨b, off, rfl, hbl⟩ := heads_some hA hLA hs.1
    generalize LA[0] = l0 at *
    obtain ⟨X, cx, hc, _, _, _⟩ := head_at hA hLA h0
    rw [Nat.add_zero] at hc
    have hne : ((n : Int) != (l0.length : Int)) = true := by
      have : n ≠ l0.length := fun he => h ⟨hbA, by rw [hw, ← he, hn]⟩
      simp; omega
    have hni : (0 : Int) < (n : Int) := by omega
    clear h hbA hn hA hLA hw h0 hs
    go_enter Tryd.func41, Tryd.ntmps41
    go_wp2_with fail
    refine hisA.out.mono ?_
    rintro e w1 ⟨rfl, hb1⟩
    have hc2 := (hb1.cell (p := ⟨b, off, none⟩) hbl).trans hc
    clear hc
    go_wp2_with fail
    go_ret2
    exact ⟨rfl, hb1⟩

set_option maxHeartbeats 800000 in
set_option maxRecDepth 100000 in
theorem rows_bad {w : World} {A Al : Option Addr} {n m cA cl : Nat} {vA : List Value} {L : List (List B8)} {l : List Int} (hA : At w A vA) (hLA : Texts w vA L) (hl : At w Al (ints l)) (hn : n = L.length) (hm : m = l.length)
    (h : ¬ (isB L = true ∧ 0 < l.length ∧ l.length ≤ 255 ∧ wrongIx L.length l = -1)) : Calls Tryd.prog 28 #[.slice A n cA, .slice Al m cl] w (RetE w 1) := by
  have hbw := below1' w (.cells #[.slice A n cA] 24)
  have hbox := box_cell w (.slice A n cA) 24
  have hisA := Lib.hid (is_calls (c := cA) (hA.below hbw) (hLA.below hbw) hn)
  have hHas := Lib.hid (fun (w1 : World) (hb : Below w.heap.size w w1) (hc : w1.cell? ⟨w.heap.size, 0, none⟩ = some (.slice A n cA)) (hl2 : l.length ≤ 255) => rhas_calls (cl := cl) (hl.below hb) hm hl2 hc)
  cases hbA : isB L with
  | false =>
    rw [hbA] at hisA
    clear h hbA hn hm hA hLA hl hHas
    go_enter Tryd.func28, Tryd.ntmps28
    go_wp2_with fail
    refine hisA.out.mono ?_
    rintro e w1 ⟨rfl, hb1⟩
    go_wp2_with fail
    go_ret2
    exact ⟨rfl, hbw.trans (hb1.mono hbw.size)⟩
  | true =>
    rw [hbA] at hisA
    by_cases h1 : m = 0
    · have d1 : ((m : Int) == (0 : Int)) = true := by simp; omega
      clear h hbA hn hm hA hLA hl hHas h1
      go_enter Tryd.func28, Tryd.ntmps28
      go_wp2_with fail
      refine hisA.out.mono ?_
      rintro e w1 ⟨rfl, hb1⟩
      go_wp2_with fail
      go_ret2
      exact ⟨rfl, hbw.trans (hb1.mono hbw.size)⟩
    have d1 : ((m : Int) == (0 : Int)) = false := by simp; omega
    by_cases h2 : 255 < m
    · have d2 : decide ((255 : Int) < (m : Int)) = true := decide_eq_true (by omega)
      clear h hbA hn hm hA hLA hl hHas h1 h2
      go_enter Tryd.func28, Tryd.ntmps28
      go_wp2_with fail
      refine hisA.out.mono ?_
      rintro e w1 ⟨rfl, hb1⟩
      go_wp2_with fail
      go_ret2
      exact ⟨rfl, hbw.trans (hb1.mono hbw.size)⟩
    have d2 : decide ((255 : Int) < (m : Int)) = false := decide_eq_false (by omega)
    have hw : decide (0 ≤ wrongIx n l) = true := by
      refine decide_eq_true ?_
      have h3 : wrongIx n l ≠ -1 := fun he => h ⟨hbA, by omega, by omega, by rw [← hn]; exact he⟩
      unfold wrongIx at h3 ⊢
      split
      · omega
      · rename_i hk
        rw [hk] at h3
        exact absurd rfl h3
    rw [hw] at hHas
    have hl255 : l.length ≤ 255 := by omega
    clear h hbA hn hm hA hLA hl h1 h2 hw
    go_enter Tryd.func28, Tryd.ntmps28
    go_wp2_with fail
    refine hisA.out.mono ?_
    generalize w.alloc (.cells #[.slice A n cA] 24) = w0 at *
    rintro e w1 ⟨rfl, hb1⟩
    have hB1 : Below w.heap.size w w1 := hbw.trans (hb1.mono hbw.size)
    have hbox1 := (hb1.cell (p := ⟨w.heap.size, 0, none⟩) (block_lt hbox)).trans hbox
    have HH := Lib.hid (hHas.out w1 hB1 hbox1 hl255)
    clear hHas hbox
    go_wp2_with fail
    refine HH.out.mono ?_
    rintro e w2 ⟨rfl, rfl⟩
    go_wp2_with fail
    go_ret2
    exact ⟨rfl, hB1⟩

/-- A list of texts that is read. -/
def LAt (w : World) (A : Option Addr) (LL : List (List B8)) : Prop := ∃ vs, At w A vs ∧ Texts w vs LL
theorem LAt.below {w w' : World} {A : Option Addr} {LL : List (List B8)} (h : LAt w A LL) (hb : Below w.heap.size w w') : LAt w' A LL := by
  obtain ⟨vs, h1, h2⟩ := h
  exact ⟨vs, h1.below hb, h2.below hb⟩
theorem LAt.mat {w : World} {A : Option Addr} {LL : List (List B8)} {r c : Nat} (h : LAt w A LL) (hr : LL.length = r) (hc : ∀ l, l ∈ LL → l.length = c) : MatAt w A r c (mxOf LL) := by
  obtain ⟨vs, h1, h2⟩ := h
  exact ⟨vs, h1, by rw [rowsL_of hr hc]; exact h2⟩
theorem isB_len {LL : List (List B8)} (h : isB LL = true) : ∀ l, l ∈ LL → l.length = widL LL := by
  intro l hl
  have := (isB_shape h).2.2.2.2
  rw [← this] at hl
  obtain ⟨i, hi, rfl⟩ := List.getElem_of_mem hl
  have h1 : (rowsL LL.length (widL LL) (mxOf LL))[i]? = some (rowL (widL LL) (mxOf LL i)) := rowsL_get (by simpa using hi)
  rw [List.getElem?_eq_getElem hi] at h1
  rw [Option.some.inj h1]
  simp
/-- A call answers a list of texts, and an error's number. -/
def RetL (w : World) (LL : List (List B8)) (err : Int) (e : Ending) (w' : World) : Prop :=
  ∃ A cap, e = .returned (.tuple #[.slice A LL.length cap, .int .i64 err]) ∧ LAt w' A LL ∧ Below w.heap.size w w'
theorem RetX.l {w : World} {LL : List (List B8)} {k : Int} {e : Ending} {w' : World} (h : RetX w LL k e w') : RetL w LL k e w' := by
  obtain ⟨A, c, vs, h1, h2, h3, h4⟩ := h
  exact ⟨A, c, h1, ⟨vs, h2, h3⟩, h4⟩
section
variable {w : World} {A B : Option Addr} {n m cA cB : Nat} {LA LB : List (List B8)}
theorem mul_x (hA : LAt w A LA) (hB : LAt w B LB) (hn : n = LA.length) (hm : m = LB.length) (hF : FoldAt w) : Calls Tryd.prog 24 #[.slice A n cA, .slice B m cB] w (RetL w (mulL LA LB) (mulE LA LB)) := by
  unfold mulL mulE
  by_cases h : isB LA = true ∧ isB LB = true ∧ widL LA = LB.length
  · rw [if_pos h, if_pos h]
    have sA := isB_shape h.1
    have sB := isB_shape h.2.1
    subst hn hm
    obtain ⟨vA, h1, h2⟩ := hA.mat rfl (isB_len h.1)
    obtain ⟨vB, h3, h4⟩ := hB.mat rfl (isB_len h.2.1)
    rw [h.2.2] at h2
    exact (matmul_calls h1 h2 h3 h4 sA.1 sA.2.1 sB.1 sB.2.1 sB.2.2.1 sB.2.2.2.1 hF).mono fun e w' h => (RetM.x h (by omega)).l
  · rw [if_neg h, if_neg h]
    obtain ⟨vA, h1, h2⟩ := hA
    obtain ⟨vB, h3, h4⟩ := hB
    exact (mul_bad h1 h2 h3 h4 hn hm h).mono fun e w' h => (RetE.x h).l
theorem rmul_x (hA : LAt w A LA) (hB : LAt w B LB) (hn : n = LA.length) (hm : m = LB.length) : Calls Tryd.prog 46 #[.slice A n cA, .slice B m cB] w (RetL w (mulL LA LB) (mulE LA LB)) := by
  unfold mulL mulE
  by_cases h : isB LA = true ∧ isB LB = true ∧ widL LA = LB.length
  · rw [if_pos h, if_pos h]
    have sA := isB_shape h.1
    have sB := isB_shape h.2.1
    subst hn hm
    obtain ⟨vA, h1, h2⟩ := hA.mat rfl (isB_len h.1)
    obtain ⟨vB, h3, h4⟩ := hB.mat rfl (isB_len h.2.1)
    rw [h.2.2] at h2
    exact (rmatmul_calls h1 h2 h3 h4 sA.1 sA.2.1 sB.1 sB.2.1 sB.2.2.1 sB.2.2.2.1).mono fun e w' h => (RetO.x h (by omega)).l
  · rw [if_neg h, if_neg h]
    obtain ⟨vA, h1, h2⟩ := hA
    obtain ⟨vB, h3, h4⟩ := hB
    exact (rmul_bad h1 h2 h3 h4 hn hm h).mono fun e w' h => (RetE.x h).l
theorem inv_x (hA : LAt w A LA) (hn : n = LA.length) (hF : FoldAt w) : Calls Tryd.prog 27 #[.slice A n cA] w (RetL w (invL LA) (invE LA)) := by
  unfold invL invE
  by_cases h : isB LA = true ∧ LA.length = widL LA
  · rw [if_pos h, if_pos h]
    have sA := isB_shape h.1
    subst hn
    obtain ⟨vA, h1, h2⟩ := hA.mat rfl (isB_len h.1)
    rw [← h.2] at h2
    refine (invert_calls h1 h2 sA.1 sA.2.1 hF).mono fun e w' h => ?_
    cases hR : invM LA.length (mxOf LA) with
    | none => rw [hR] at h; exact (RetE.x h).l
    | some R => rw [hR] at h; exact (RetM.x h (by omega)).l
  · rw [if_neg h, if_neg h]
    obtain ⟨vA, h1, h2⟩ := hA
    exact (invert_bad h1 h2 hn h).mono fun e w' h => (RetE.x h).l
theorem rinv_x (hA : LAt w A LA) (hn : n = LA.length) : Calls Tryd.prog 41 #[.slice A n cA] w (RetL w (invL LA) (invE LA)) := by
  unfold invL invE
  by_cases h : isB LA = true ∧ LA.length = widL LA
  · rw [if_pos h, if_pos h]
    have sA := isB_shape h.1
    subst hn
    obtain ⟨vA, h1, h2⟩ := hA.mat rfl (isB_len h.1)
    rw [← h.2] at h2
    cases hR : invM LA.length (mxOf LA) with
    | none => exact (rinvert_gen h1 h2 sA.1 sA.2.1 (fun _ => ⟨rfl, rfl⟩) (fun R h => by rw [hR] at h; cases h)).mono fun e w' h => h.l
    | some R => exact (rinvert_gen h1 h2 sA.1 sA.2.1 (fun h => by rw [hR] at h; cases h) (fun R' h => by rw [hR] at h; cases h; exact ⟨rfl, rfl⟩)).mono fun e w' h => h.l
  · rw [if_neg h, if_neg h]
    obtain ⟨vA, h1, h2⟩ := hA
    exact (rinvert_bad h1 h2 hn h).mono fun e w' h => (RetE.x h).l
/-- The rows are one's own. -/
def RetRw (w : World) (LL : List (List B8)) (err : Int) (e : Ending) (w' : World) : Prop :=
  RetE w 1 e w' ∧ LL = [] ∧ err = 1 ∨ ∃ r c M, 0 < r ∧ r ≤ 255 ∧ c ≤ 255 ∧ LL = rowsL r c M ∧ err = 0 ∧ RetM w r c M e w'
variable {Al : Option Addr} {l : List Int} {cl : Nat}
theorem rows_x (hA : LAt w A LA) (hl : At w Al (ints l)) (hn : n = LA.length) (hm : m = l.length) : Calls Tryd.prog 28 #[.slice A n cA, .slice Al m cl] w (RetRw w (rwsL LA l) (rwsE LA l)) := by
  unfold rwsL rwsE
  by_cases h : isB LA = true ∧ 0 < l.length ∧ l.length ≤ 255 ∧ wrongIx LA.length l = -1
  · rw [if_pos h, if_pos h]
    have sA := isB_shape h.1
    subst hn
    obtain ⟨vA, h1, h2⟩ := hA.mat rfl (isB_len h.1)
    subst hm
    exact (rows_calls h1 h2 hl rfl sA.1 sA.2.1 sA.2.2.1 sA.2.2.2.1 h.2.1 h.2.2.1 (wrong_le h.2.2.2)).mono fun e w' hh => .inr ⟨_, _, _, h.2.1, h.2.2.1, sA.2.2.2.1, rfl, rfl, hh⟩
  · rw [if_neg h, if_neg h]
    obtain ⟨vA, h1, h2⟩ := hA
    exact (rows_bad h1 h2 hl hn hm h).mono fun e w' hh => .inl ⟨hh, rfl, rfl⟩
theorem rrows_x (hA : LAt w A LA) (hl : At w Al (ints l)) (hn : n = LA.length) (hm : m = l.length) : Calls Tryd.prog 47 #[.slice A n cA, .slice Al m cl] w (RetL w (rwsL LA l) (rwsE LA l)) := by
  unfold rwsL rwsE
  by_cases h : isB LA = true ∧ 0 < l.length ∧ l.length ≤ 255
  · have sA := isB_shape h.1
    subst hn
    obtain ⟨vA, h1, h2⟩ := hA.mat rfl (isB_len h.1)
    refine (rrows_calls h1 h2 hl hm sA.1 sA.2.1 sA.2.2.1 sA.2.2.2.1 h.2.1 h.2.2).mono fun e w' hh => ?_
    by_cases hw : wrongIx LA.length l = -1
    · rw [if_pos hw, if_pos hw] at hh
      rw [if_pos ⟨h.1, h.2.1, h.2.2, hw⟩, if_pos ⟨h.1, h.2.1, h.2.2, hw⟩]
      exact hh.l
    · rw [if_neg hw, if_neg hw] at hh
      rw [if_neg (fun g => hw g.2.2.2), if_neg (fun g => hw g.2.2.2)]
      exact hh.l
  · rw [if_neg (fun g => h ⟨g.1, g.2.1, g.2.2.1⟩), if_neg (fun g => h ⟨g.1, g.2.1, g.2.2.1⟩)]
    obtain ⟨vA, h1, h2⟩ := hA
    refine (rrows_no h1 h2 hn hm ?_).mono fun e w' hh => (RetE.x hh).l
    cases hb : isB LA with
    | false => exact .inl rfl
    | true =>
      rw [hb] at h
      rcases Nat.lt_or_ge m 1 with h1 | h1
      · exact .inr (.inl h1)
      · exact .inr (.inr (by rcases Nat.lt_or_ge 255 m with h2 | h2; exact h2; exact absurd ⟨rfl, by omega, by omega⟩ h))
end
theorem same_l {w : World} {A B : Option Addr} {a b : Nat} {L K : List (List B8)} (hA : LAt w A L) (hB : LAt w B K) (hmax : L.length ≤ 5864062014634) :
    Calls Tryd.prog 26 #[.slice A L.length a, .slice B K.length b] w fun e w' => e = .returned (.bool (decide (L = K))) ∧ w = w' := by
  obtain ⟨vA, h1, h2⟩ := hA
  obtain ⟨vB, h3, h4⟩ := hB
  exact sametexts_calls h1 h2 h3 h4 rfl rfl hmax
theorem same_ll {w : World} {A B : Option Addr} {a b : Nat} {L : List (List B8)} (hA : LAt w A L) (hB : LAt w B L) (hmax : L.length ≤ 5864062014634) :
    Calls Tryd.prog 26 #[.slice A L.length a, .slice B L.length b] w fun e w' => e = .returned (.bool true) ∧ w = w' := by
  have := same_l (a := a) (b := b) hA hB hmax
  rwa [decide_eq_true rfl] at this

end Go.Proofs.YtibidlgikecelaaDoor
