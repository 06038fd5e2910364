/- Contracts: amphoraref02.Is, amphoraref02.add. Contracts: amphoraref02.Mul, amphoraref02.Rows. Contracts: amphoraref02.Rows. -/
import Derived.Test.YtibidlgikecelaaDoorTA
namespace Go.Proofs.YtibidlgikecelaaDoor
open Go.RowKit
set_option linter.unusedVariables false
set_option linter.unusedSimpArgs false

theorem isB_no {L : List (List B8)} {l r : List B8} {j : Nat} (h0 : L[0]? = some l) (hj : L[j]? = some r) (h : r.length < 1 ∨ 255 < r.length ∨ r.length ≠ l.length) : isB L = false := by
  cases hb : isB L with
  | false => rfl
  | true =>
    exfalso
    cases L with
    | nil => cases h0
    | cons x L =>
      cases h0
      simp only [isB, Bool.and_eq_true, decide_eq_true_eq, List.all_eq_true] at hb
      obtain ⟨⟨⟨h1, h2⟩, h3⟩, h4⟩ := hb
      have := h4 r (List.mem_of_getElem? hj)
      omega
theorem isB_yes {L : List (List B8)} {l : List B8} (h0 : L[0]? = some l) (h1 : L.length ≤ 255) (h : ∀ (i : Nat) (r : List B8), i < L.length → L[i]? = some r → ¬ (r.length < 1 ∨ 255 < r.length ∨ r.length ≠ l.length)) : isB L = true := by
  cases L with
  | nil => cases h0
  | cons x L =>
    cases h0
    have hl := h 0 l (by simp) rfl
    simp only [isB, Bool.and_eq_true, decide_eq_true_eq, List.all_eq_true]
    refine ⟨⟨⟨h1, by omega⟩, by omega⟩, fun r hr => ?_⟩
    obtain ⟨i, hi, rfl⟩ := List.getElem_of_mem hr
    have := h i _ hi (List.getElem?_eq_getElem hi)
    omega
theorem isB_nil {L : List (List B8)} (h : L.length < 1) : isB L = false := by
  cases L with
  | nil => rfl
  | cons x L => simp at h
theorem isB_many {L : List (List B8)} (h : 255 < L.length) : isB L = false := by
  cases L with
  | nil => rfl
  | cons x L => simp only [isB, decide_eq_false (show ¬ (x :: L).length ≤ 255 by omega), Bool.false_and]

set_option maxHeartbeats 800000 in
set_option maxRecDepth 100000 in
theorem ris_calls {w : World} {A : Option Addr} {n c : Nat} {vs : List Value} {L : List (List B8)} (hA : At w A vs) (hL : Texts w vs L) (hn : n = L.length) :
    Calls Tryd.prog 75 #[.slice A n c] w fun e w' => e = .returned (.bool (isB L)) ∧ w = w' := by
  subst hn
  by_cases h1 : L.length < 1
  · have d1 : decide ((L.length : Int) < (1 : Int)) = true := decide_eq_true (by omega)
    have hB := isB_nil h1
    generalize isB L = res at *
    subst hB
    clear h1
    go_enter Tryd.func75, Tryd.ntmps75
    go_wp2_with fail
    go_ret
    exact ⟨rfl, rfl⟩
  by_cases h2 : 255 < L.length
  · have d1 : decide ((L.length : Int) < (1 : Int)) = false := decide_eq_false (by omega)
    have d2 : decide ((255 : Int) < (L.length : Int)) = true := decide_eq_true (by omega)
    have hB := isB_many h2
    generalize isB L = res at *
    subst hB
    clear h1 h2
    go_enter Tryd.func75, Tryd.ntmps75
    go_wp2_with fail
    go_ret
    exact ⟨rfl, rfl⟩
  have d1 : decide ((L.length : Int) < (1 : Int)) = false := decide_eq_false (by omega)
  have d2 : decide ((255 : Int) < (L.length : Int)) = false := decide_eq_false (by omega)
  have hl0 : L[0]? = some L[0] := List.getElem?_eq_getElem (by omega)
  obtain ⟨b, off, rfl, hb⟩ := heads_some hA hL (by omega)
  generalize L[0] = l0 at *
  obtain ⟨X0, cx0, hc0, _, _, _⟩ := head_at hA hL hl0
  rw [Nat.add_zero] at hc0
  have HNO := Lib.hid (fun (j : Nat) (r : List B8) (hj : L[j]? = some r) (h : r.length < 1 ∨ 255 < r.length ∨ r.length ≠ l0.length) => isB_no hl0 hj h)
  have HYES := Lib.hid (isB_yes hl0 (by omega))
  generalize isB L = res at *
  have hL0 : (0 : Int) < (L.length : Int) := by omega
  have hL255 : L.length ≤ 255 := by omega
  clear h1 h2 hl0
  go_enter Tryd.func75, Tryd.ntmps75
  go_wp2_with fail
  go_loop [15] (fun s => ∃ j : Nat, j ≤ L.length ∧ s = .int .i64 ((j : Nat) : Int) ∧ ∀ (i : Nat) (r : List B8), i < j → L[i]? = some r → ¬ (r.length < 1 ∨ 255 < r.length ∨ r.length ≠ l0.length)) (fun s => L.length - (intOf s).toNat)
  case atStart => exact ⟨0, by omega, rfl, by intro i r hi; omega⟩
  case round =>
    obtain ⟨j, hj, rfl, hall⟩ := hrel
    have HALL := Lib.hid hall
    clear hall
    by_cases hjl : j < L.length
    · have hji : (j : Int) < (L.length : Int) := by omega
      have hlj : L[j]? = some L[j] := List.getElem?_eq_getElem hjl
      generalize L[j] = r at *
      obtain ⟨X, cx, hcx, _, _, _⟩ := head_at hA hL hlj
      have HLJ := Lib.hid hlj
      clear hlj
      by_cases g1 : r.length < 1
      · have e1 : decide ((r.length : Int) < (1 : Int)) = true := decide_eq_true (by omega)
        have HB := HNO.out j r HLJ.out (.inl g1)
        subst HB
        clear g1
        go_wp2_with fail
        go_ret
        exact ⟨rfl, rfl⟩
      have e1 : decide ((r.length : Int) < (1 : Int)) = false := decide_eq_false (by omega)
      by_cases g2 : 255 < r.length
      · have e2 : decide ((255 : Int) < (r.length : Int)) = true := decide_eq_true (by omega)
        have HB := HNO.out j r HLJ.out (.inr (.inl g2))
        subst HB
        clear g1 g2
        go_wp2_with fail
        go_ret
        exact ⟨rfl, rfl⟩
      have e2 : decide ((255 : Int) < (r.length : Int)) = false := decide_eq_false (by omega)
      by_cases g3 : r.length = l0.length
      · have e3 : ((r.length : Int) != (l0.length : Int)) = false := by simp; omega
        have HG := Lib.hid (by omega : ¬ (r.length < 1 ∨ 255 < r.length ∨ r.length ≠ l0.length))
        clear g1 g2 g3
        go_wp2_with fail
        refine ⟨⟨j + 1, by omega, by go_num, fun i r' hi hr => ?_⟩, by simp [intOf]; omega⟩
        by_cases hij : i < j
        · exact HALL.out i r' hij hr
        · obtain rfl : i = j := by omega
          rw [HLJ.out] at hr
          cases hr
          exact HG.out
      · have e3 : ((r.length : Int) != (l0.length : Int)) = true := by simp; omega
        have HB := HNO.out j r HLJ.out (.inr (.inr g3))
        subst HB
        clear g1 g2 g3
        go_wp2_with fail
        go_ret
        exact ⟨rfl, rfl⟩
    · obtain rfl : j = L.length := by omega
      have HB := HYES.out HALL.out
      subst HB
      go_wp2_with fail
      go_ret
      exact ⟨rfl, rfl⟩

set_option maxHeartbeats 800000 in
set_option maxRecDepth 100000 in
theorem radd_calls {w : World} {B tb c ct cf : Nat} {f h : Nat → B8} {F : Option Addr} {x : B8} (hT : w.ownsRow B 5 1 (.slice (some ⟨tb, 0, none⟩) c ct) c (bys (rowL c f))) (hFA : At w F (bys (rowL c h)))
    (hne : ∀ b off, F = some ⟨b, off, none⟩ → b ≠ tb) (hc : c ≤ 1000000) :
    Calls Tryd.prog 78 #[.slice (some ⟨tb, 0, none⟩) c ct, .slice F c cf, .int .u8 (x.toNat : Int)] w fun e w' => e = .returned (.tuple #[]) ∧ w.grownBy w' (some tb) ∧ w'.ownsRow B 5 1 (.slice (some ⟨tb, 0, none⟩) c ct) c (bys (rowL c (addR f h x))) := by
  have HE := Lib.hid (addAt_end c f h x)
  go_enter Tryd.func78, Tryd.ntmps78
  go_wp2_with fail
  go_loopw [10] (fun s wr => ∃ i : Nat, i ≤ c ∧ s = .int .i64 ((i : Nat) : Int) ∧ w.grownBy wr (some tb) ∧ wr.ownsRow B 5 1 (.slice (some ⟨tb, 0, none⟩) c ct) c (bys (rowL c (addAt i f h x)))) (fun s _ => c - (intOf s).toNat)
  case atStart => exact ⟨0, by omega, rfl, grown_refl _ _, by rw [addAt_zero]; exact hT⟩
  case round =>
    obtain ⟨i, hi, rfl, hg, hR⟩ := hrel
    by_cases hic : i < c
    · have hii : (i : Int) < (c : Int) := by omega
      have hcT := own_cell hR (j := i) (by simpa using hic)
      rw [show (rowL c (addAt i f h x))[i]'(by simpa using hic) = addAt i f h x i from by simp [rowL], addAt_at] at hcT
      have hfz := hR.frozenAt i
      obtain ⟨b, off, rfl, hcF⟩ := row_byte (hFA.grown' hg (fun b off he hb => hne b off he (Option.some.inj hb))) hic
      have hbne := hne b off rfl
      have hS := Lib.hid (addAt_step i f h x)
      have hRR := Lib.hid (rowL_set c (addAt i f h x) i (f i ^^^ gm (h i) x))
      rw [hS.out] at hRR
      generalize hf1 : addAt (i + 1) f h x = f1 at *
      have HF1 := Lib.hid hf1
      clear hf1
      generalize addAt i f h x = f2 at *
      generalize f i = y at *
      generalize h i = z at *
      go_wp2_with fail
      have hcTD : wr.drew.cell? ⟨tb, i, none⟩ = some (.int .u8 (y.toNat : Int)) := hcT
      have hfzD : wr.drew.frozen? ⟨tb, i, none⟩ = false := hfz
      have hRD : wr.drew.ownsRow B 5 1 (.slice (some ⟨tb, 0, none⟩) c ct) c (bys (rowL c f2)) := hR
      have hgD : w.grownBy wr.drew (some tb) := grown_trans hg (grown_of_below (belowN 1) _)
      refine wp_region_held_drew (S := fun _ => True) (by kernel_rfl) trivial (fun _ => ?_)
      generalize wr.drew = WD at *
      clear hcT hcF hR hg hfz
      have HX := Lib.hid (b8_xor y (gm z x))
      refine wpAnyH_take (i := 0) (v := ?_) rfl (by kernel_rfl) (by kernel_rfl) (by kernel_rfl) (fun _ _ _ h => h) (Or.inl ⟨by rfl, ?_⟩) (by assumption) ?_; rotate_left; (intro w hSw; (try dsimp only at hSw); go_simp; (first | done | (with_reducible rfl))); (try simp only [List.getElem_toArray, List.getElem_cons_succ, List.getElem_cons_zero, Act.put, List.setIfInBounds_toArray, List.set_cons_zero, List.set_cons_succ])
      refine wpAnyH_take (i := 1) (v := ?_) rfl (by kernel_rfl) (by kernel_rfl) (by kernel_rfl) (fun _ _ _ h => h) (Or.inl ⟨by rfl, ?_⟩) (by assumption) ?_; rotate_left; (intro w hSw; (try dsimp only at hSw); go_simp; (first | done | (with_reducible rfl))); (try simp only [List.getElem_toArray, List.getElem_cons_succ, List.getElem_cons_zero, Act.put, List.setIfInBounds_toArray, List.set_cons_zero, List.set_cons_succ])
      refine wpAnyH_take (i := 2) (v := ?_) rfl (by kernel_rfl) (by kernel_rfl) (by kernel_rfl) (fun _ _ _ h => h) (Or.inl ⟨by rfl, ?_⟩) (by assumption) ?_; rotate_left; (intro w hSw; (try dsimp only at hSw); go_simp; (first | done | (with_reducible rfl))); (try simp only [List.getElem_toArray, List.getElem_cons_succ, List.getElem_cons_zero, Act.put, List.setIfInBounds_toArray, List.set_cons_zero, List.set_cons_succ])
      refine wpAnyH_take (i := 3) (v := ?_) rfl (by kernel_rfl) (by kernel_rfl) (by kernel_rfl) (fun _ _ _ h => h) (Or.inl ⟨by rfl, ?_⟩) (by assumption) ?_; rotate_left; (intro w hSw; (try dsimp only at hSw); go_simp; (first | done | (with_reducible rfl))); (try simp only [List.getElem_toArray, List.getElem_cons_succ, List.getElem_cons_zero, Act.put, List.setIfInBounds_toArray, List.set_cons_zero, List.set_cons_succ])
      refine wpAnyH_take (i := 6) (v := ?_) rfl (by kernel_rfl) (by kernel_rfl) (by kernel_rfl) (fun _ _ _ h => h) (Or.inl ⟨by rfl, ?_⟩) (by assumption) ?_; rotate_left; (intro w hSw; (try dsimp only at hSw); go_simp; (first | done | (with_reducible rfl))); (try simp only [List.getElem_toArray, List.getElem_cons_succ, List.getElem_cons_zero, Act.put, List.setIfInBounds_toArray, List.set_cons_zero, List.set_cons_succ])
      refine wpAnyH_take (i := 7) (v := ?_) rfl (by kernel_rfl) (by kernel_rfl) (by kernel_rfl) (fun _ _ _ h => h) (Or.inl ⟨by rfl, ?_⟩) (by assumption) ?_; rotate_left; (intro w hSw; (try dsimp only at hSw); go_simp; (first | done | (with_reducible rfl))); (try simp only [List.getElem_toArray, List.getElem_cons_succ, List.getElem_cons_zero, Act.put, List.setIfInBounds_toArray, List.set_cons_zero, List.set_cons_succ])
      refine wpAnyH_take (i := 4) (v := ?_) rfl (by kernel_rfl) (by kernel_rfl) (by kernel_rfl) (fun _ _ _ h => h) (Or.inl ⟨by rfl, ?_⟩) (by assumption) ?_; rotate_left; (intro w hSw; (try dsimp only at hSw); go_simp; (first | done | (with_reducible rfl))); (try simp only [List.getElem_toArray, List.getElem_cons_succ, List.getElem_cons_zero, Act.put, List.setIfInBounds_toArray, List.set_cons_zero, List.set_cons_succ])
      refine wpAnyH_ready (rs := [5, 8]) (by kernel_rfl) (by simp) ?_
      refine AllReadyH.cons rfl (fun K hK => ?_) (AllReadyH.cons rfl (fun K hK => ?_) AllReadyH.nil)
      · go_simp
        go_wp2_with fail
        refine hK.out _ _ trivial (fun _ => ?_); clear hK K; (try simp only [List.getElem_toArray, List.getElem_cons_succ, List.getElem_cons_zero, Act.put, List.setIfInBounds_toArray, List.set_cons_zero, List.set_cons_succ])
        refine wpAnyH_ready (rs := [8]) (by kernel_rfl) (by simp) ?_; refine AllReadyH.cons rfl (fun K hK => ?_) AllReadyH.nil
        go_simp
        refine (rmul_calls z x).mono ?_
        rintro e w1 ⟨rfl, rfl⟩
        go_wp2_with fail
        refine hK.out _ _ trivial (fun _ => ?_); clear hK K; (try simp only [List.getElem_toArray, List.getElem_cons_succ, List.getElem_cons_zero, Act.put, List.setIfInBounds_toArray, List.set_cons_zero, List.set_cons_succ])
        refine wpAnyH_take (i := 9) (v := ?_) rfl (by kernel_rfl) (by kernel_rfl) (by kernel_rfl) (fun _ _ _ h => h) (Or.inl ⟨by rfl, ?_⟩) (by assumption) ?_; rotate_left; (intro w hSw; (try dsimp only at hSw); go_simp; (first | done | (with_reducible rfl))); (try simp only [List.getElem_toArray, List.getElem_cons_succ, List.getElem_cons_zero, Act.put, List.setIfInBounds_toArray, List.set_cons_zero, List.set_cons_succ])
        refine wpAnyH_take (i := 10) (v := ?_) rfl (by kernel_rfl) (by kernel_rfl) (by kernel_rfl) (fun _ _ _ h => h) (Or.inl ⟨by rfl, ?_⟩) (by assumption) ?_; rotate_left; (intro w hSw; (try dsimp only at hSw); go_simp; (first | done | (with_reducible rfl))); (try simp only [List.getElem_toArray, List.getElem_cons_succ, List.getElem_cons_zero, Act.put, List.setIfInBounds_toArray, List.set_cons_zero, List.set_cons_succ])
        refine wpAnyH_ready (rs := [11]) (by kernel_rfl) (by simp) ?_; refine AllReadyH.cons rfl (fun K hK => ?_) AllReadyH.nil
        go_simp
        go_wp2_with fail
        refine hK.out _ _ trivial (fun _ => ?_); clear hK K; (try simp only [List.getElem_toArray, List.getElem_cons_succ, List.getElem_cons_zero, Act.put, List.setIfInBounds_toArray, List.set_cons_zero, List.set_cons_succ])
        refine wpAnyH_done (by kernel_rfl) ?_ _
        go_wp2_with fail
        have hst := own_store hRD i (y ^^^ gm z x)
        rw [hRR.out] at hst
        rw [HX.out]
        exact ⟨⟨i + 1, by omega, by go_num, grown_trans hgD (grown_set _ _ _ _), by rw [HF1.out]; exact hst⟩, by simp [intOf]; omega⟩
      · go_simp
        refine (rmul_calls z x).mono ?_
        rintro e w1 ⟨rfl, rfl⟩
        go_wp2_with fail
        refine hK.out _ _ trivial (fun _ => ?_); clear hK K; (try simp only [List.getElem_toArray, List.getElem_cons_succ, List.getElem_cons_zero, Act.put, List.setIfInBounds_toArray, List.set_cons_zero, List.set_cons_succ])
        refine wpAnyH_ready (rs := [5]) (by kernel_rfl) (by simp) ?_; refine AllReadyH.cons rfl (fun K hK => ?_) AllReadyH.nil
        go_simp
        go_wp2_with fail
        refine hK.out _ _ trivial (fun _ => ?_); clear hK K; (try simp only [List.getElem_toArray, List.getElem_cons_succ, List.getElem_cons_zero, Act.put, List.setIfInBounds_toArray, List.set_cons_zero, List.set_cons_succ])
        refine wpAnyH_take (i := 9) (v := ?_) rfl (by kernel_rfl) (by kernel_rfl) (by kernel_rfl) (fun _ _ _ h => h) (Or.inl ⟨by rfl, ?_⟩) (by assumption) ?_; rotate_left; (intro w hSw; (try dsimp only at hSw); go_simp; (first | done | (with_reducible rfl))); (try simp only [List.getElem_toArray, List.getElem_cons_succ, List.getElem_cons_zero, Act.put, List.setIfInBounds_toArray, List.set_cons_zero, List.set_cons_succ])
        refine wpAnyH_take (i := 10) (v := ?_) rfl (by kernel_rfl) (by kernel_rfl) (by kernel_rfl) (fun _ _ _ h => h) (Or.inl ⟨by rfl, ?_⟩) (by assumption) ?_; rotate_left; (intro w hSw; (try dsimp only at hSw); go_simp; (first | done | (with_reducible rfl))); (try simp only [List.getElem_toArray, List.getElem_cons_succ, List.getElem_cons_zero, Act.put, List.setIfInBounds_toArray, List.set_cons_zero, List.set_cons_succ])
        refine wpAnyH_ready (rs := [11]) (by kernel_rfl) (by simp) ?_; refine AllReadyH.cons rfl (fun K hK => ?_) AllReadyH.nil
        go_simp
        go_wp2_with fail
        refine hK.out _ _ trivial (fun _ => ?_); clear hK K; (try simp only [List.getElem_toArray, List.getElem_cons_succ, List.getElem_cons_zero, Act.put, List.setIfInBounds_toArray, List.set_cons_zero, List.set_cons_succ])
        refine wpAnyH_done (by kernel_rfl) ?_ _
        go_wp2_with fail
        have hst := own_store hRD i (y ^^^ gm z x)
        rw [hRR.out] at hst
        rw [HX.out]
        exact ⟨⟨i + 1, by omega, by go_num, grown_trans hgD (grown_set _ _ _ _), by rw [HF1.out]; exact hst⟩, by simp [intOf]; omega⟩
    · obtain rfl : i = c := by omega
      rw [HE.out] at hR
      go_wp2_with fail
      go_end0
      exact ⟨rfl, hg, hR⟩

end Go.Proofs.YtibidlgikecelaaDoor

namespace Go.Proofs.YtibidlgikecelaaDoor
open Go.RowKit
set_option linter.unusedVariables false
set_option linter.unusedSimpArgs false

/-- A product's row in the making. -/
def mulRow (n : Nat) (f : Nat → B8) (B : Mx) (k i : Nat) : Nat → B8 := fun j => if j < k then xs n (fun l => gm (f l) (B l j)) else if j = k then xs i (fun l => gm (f l) (B l j)) else 0#8
theorem mulRow_zero (n : Nat) (f : Nat → B8) (B : Mx) : mulRow n f B 0 0 = fun _ => 0#8 := by
  funext j
  unfold mulRow
  simp [xs]
theorem mulRow_at (n : Nat) (f : Nat → B8) (B : Mx) (k i : Nat) : mulRow n f B k i k = xs i (fun l => gm (f l) (B l k)) := by simp [mulRow]
theorem mulRow_step (n : Nat) (f : Nat → B8) (B : Mx) (k i : Nat) : (fun j => if j = k then mulRow n f B k i k ^^^ gm (f i) (B i k) else mulRow n f B k i j) = mulRow n f B k (i + 1) := by
  funext j
  rw [mulRow_at]
  unfold mulRow
  by_cases h : j = k
  · subst h; simp [xs]
  · simp [h]
theorem mulRow_next (n : Nat) (f : Nat → B8) (B : Mx) (k : Nat) : mulRow n f B k n = mulRow n f B (k + 1) 0 := by
  funext j
  unfold mulRow
  by_cases h : j < k
  · have : j < k + 1 := by omega
    simp [h, this]
  · by_cases h2 : j = k
    · subst h2; simp
    · have h3 : ¬ j < k + 1 := by omega
      simp [h, h2, h3, xs]
theorem mulRow_end (n c : Nat) (A B : Mx) (i : Nat) : rowL c (mulRow n (A i) B c 0) = rowL c (mulM n A B i) := rowL_congr fun j hj => by simp [mulRow, mulM, hj]

set_option maxHeartbeats 1000000 in
set_option maxRecDepth 100000 in
theorem rmatmul_calls {w : World} {A B : Option Addr} {r n c cA cB : Nat} {vA vB : List Value} {MA MB : Mx} (hA : At w A vA) (hLA : Texts w vA (rowsL r n MA)) (hB : At w B vB) (hLB : Texts w vB (rowsL n c MB))
    (hr : 0 < r) (hr2 : r ≤ 255) (hn : 0 < n) (hn2 : n ≤ 255) (hc : 0 < c) (hc2 : c ≤ 255) :
    Calls Tryd.prog 46 #[.slice A r cA, .slice B n cB] w (RetO w r c (mulM n MA MB)) := by
  have hri : (0 : Int) < (r : Int) := by omega
  have hni : (0 : Int) < (n : Int) := by omega
  obtain ⟨ba, oa, rfl, hba⟩ := heads_some hA hLA (by simpa using hr)
  obtain ⟨bb, ob, rfl, hbb⟩ := heads_some hB hLB (by simpa using hn)
  obtain ⟨XA0, cA0, hA0, _, _, _⟩ := row_head hA hLA hr
  obtain ⟨XB0, cB0, hB0, _, _, _⟩ := row_head hB hLB hn
  rw [Nat.add_zero] at hA0 hB0
  have hisA := Lib.hid (ris_calls (c := cA) hA hLA (by simp : r = _))
  rw [rowsL_isB MA hr hr2 hn hn2] at hisA
  have hisB := Lib.hid (ris_calls (c := cB) hB hLB (by simp : n = _))
  rw [rowsL_isB MB hn hn2 hc hc2] at hisB
  have hnn : ((n : Int) != (n : Int)) = false := by simp
  go_enter Tryd.func46, Tryd.ntmps46
  go_wp2_with fail
  refine hisA.out.mono ?_
  rintro e w' ⟨rfl, rfl⟩
  go_wp2_with fail
  refine hisB.out.mono ?_
  rintro e w' ⟨rfl, rfl⟩
  go_wp2_with fail
  clear hisA hisB
  go_loopw [6, 32] (fun s6 s wr => ∃ (i : Nat) (A' : Option Addr) (cap : Nat) (blk : Nat → Nat), i ≤ r ∧ s = .int .i64 ((i : Nat) : Int) ∧ s6 = .slice A' i cap ∧ OwnG wr w.heap.size A' cap blk i c (mulM n MA MB) ∧ Below w.heap.size w wr) (fun _ s _ => r - (intOf s).toNat)
  case atStart => exact ⟨0, none, 0, fun _ => 0, by omega, rfl, rfl, OwnG.nil _ _ _ _ _, Below.refl _ _⟩
  case round =>
    obtain ⟨i, A', cap, blk, hi, rfl, rfl, hG, hb⟩ := hrel
    rename World => w1
    by_cases hin : i < r
    · have hii : (i : Int) < (r : Int) := by omega
      obtain ⟨XA, cxa, hca, hXA, _, _⟩ := row_head hA hLA hin
      have hcaw := (hb.cell (p := ⟨ba, oa + i, none⟩) hba).trans hca
      have hB0w := (hb.cell (p := ⟨bb, ob, none⟩) hbb).trans hB0
      obtain ⟨bx, ox, rfl⟩ := some_of_at hXA (by simpa using hn)
      have HG := Lib.hid hG
      have hzw := hb.size
      clear hG hca
      go_wp2_with (refine make_row rfl (.tmp 39) (.tmp 39) rfl c rfl rfl rfl rfl (by omega) ?_; intro w2 hr2 hb2 hs2; have HR := Lib.hid hr2; clear hr2 hs2)
      go_loopw [43] (fun s wr => ∃ k : Nat, k ≤ c ∧ s = .int .i64 ((k : Nat) : Int) ∧ RowB wr w1.heap.size (rowL c (mulRow n (MA i) MB k 0)) ∧ Below w1.heap.size w1 wr) (fun s _ => c - (intOf s).toNat)
      case atStart => exact ⟨0, by omega, rfl, by rw [mulRow_zero]; exact HR.out, hb2⟩
      case round =>
        obtain ⟨k, hk, rfl, hR, hbq⟩ := hrel
        by_cases hkc : k < c
        · have hkk : (k : Int) < (c : Int) := by omega
          go_wp2_with fail
          go_loopw [48] (fun s wr => ∃ l : Nat, l ≤ n ∧ s = .int .i64 ((l : Nat) : Int) ∧ RowB wr w1.heap.size (rowL c (mulRow n (MA i) MB k l)) ∧ Below w1.heap.size w1 wr) (fun s _ => n - (intOf s).toNat)
          case atStart => exact ⟨0, by omega, rfl, hR, hbq⟩
          case round =>
            obtain ⟨l, hl, rfl, hRl, hbl⟩ := hrel
            clear hR hbq
            by_cases hln : l < n
            · have hll : (l : Int) < (n : Int) := by omega
              have hBw := hb.trans (hbl.mono hzw)
              obtain ⟨bx', ox', he', hcx⟩ := row_byte (hXA.below hBw) hln
              cases he'
              obtain ⟨XB, cxb, hcb, hXB, _, _⟩ := row_head hB hLB hln
              have hcbw := (hBw.cell (p := ⟨bb, ob + l, none⟩) hbb).trans hcb
              obtain ⟨by', oy, rfl, hcy⟩ := row_byte (hXB.below hBw) hkc
              have hby := block_lt hcy
              have hbyw : by' < w.heap.size := (hXB.lt (by simpa using hc)) _ _ rfl
              have hcs := hRl.cell (rowL_get (f := mulRow n (MA i) MB k l) hkc)
              have hfs := hRl.frozen k
              have hS := Lib.hid (mulRow_step n (MA i) MB k l)
              have hRR := Lib.hid (rowL_set c (mulRow n (MA i) MB k l) k (mulRow n (MA i) MB k l k ^^^ gm (MA i l) (MB l k)))
              rw [hS.out] at hRR
              generalize hf1 : mulRow n (MA i) MB k (l + 1) = f1 at *
              have HF1 := Lib.hid hf1
              clear hf1
              generalize mulRow n (MA i) MB k l = f2 at *
              generalize f2 k = y at *
              generalize hz1 : MA i l = x at *
              generalize hz2 : MB l k = z at *
              clear hcb hz1 hz2
              go_wp2_with fail
              have hcbD : wr.drew.cell? ⟨bb, ob + l, none⟩ = some (.slice (some ⟨by', oy, none⟩) c cxb) := hcbw
              have hcyD : wr.drew.cell? ⟨by', oy + k, none⟩ = some (.int .u8 (z.toNat : Int)) := hcy
              have hcsD : wr.drew.cell? ⟨w1.heap.size, k, none⟩ = some (.int .u8 (y.toNat : Int)) := hcs
              have hfsD : wr.drew.frozen? ⟨w1.heap.size, k, none⟩ = false := hfs
              have hRD : RowB wr.drew w1.heap.size (rowL c f2) := hRl
              have hBD : Below w1.heap.size w1 wr.drew := hbl.trans ((belowN 1 : Below wr.heap.size wr (wr.drewN 1)).mono hbl.size)
              refine wp_region_held_drew (S := fun w' => w'.cell? ⟨bb, ob + l, none⟩ = some (.slice (some ⟨by', oy, none⟩) c cxb) ∧ w'.cell? ⟨by', oy + k, none⟩ = some (.int .u8 (z.toNat : Int))) (by kernel_rfl) ⟨hcbD, hcyD⟩ (fun hHeld => ?_)
              generalize wr.drew = WD at *
              clear hcbw hcy hcs hfs hRl hbl hcx
              refine wpAnyH_take (i := 0) (v := ?_) rfl (by kernel_rfl) (by kernel_rfl) (by kernel_rfl) (fun _ _ _ h => h) (Or.inl ⟨by rfl, ?_⟩) (by assumption) ?_; rotate_left; (intro w hSw; (try dsimp only at hSw); go_simp; (first | done | (with_reducible rfl))); (try simp only [List.getElem_toArray, List.getElem_cons_succ, List.getElem_cons_zero, Act.put, List.setIfInBounds_toArray, List.set_cons_zero, List.set_cons_succ])
              refine wpAnyH_take (i := 1) (v := ?_) rfl (by kernel_rfl) (by kernel_rfl) (by kernel_rfl) (fun _ _ _ h => h) (Or.inl ⟨by rfl, ?_⟩) (by assumption) ?_; rotate_left; (intro w hSw; (try dsimp only at hSw); go_simp; (first | done | (with_reducible rfl))); (try simp only [List.getElem_toArray, List.getElem_cons_succ, List.getElem_cons_zero, Act.put, List.setIfInBounds_toArray, List.set_cons_zero, List.set_cons_succ])
              refine wpAnyH_take (i := 2) (v := ?_) rfl (by kernel_rfl) (by kernel_rfl) (by kernel_rfl) (fun _ _ _ h => h) (Or.inl ⟨by rfl, ?_⟩) (by assumption) ?_; rotate_left; (intro w hSw; (try dsimp only at hSw); go_simp; (first | done | (with_reducible rfl))); (try simp only [List.getElem_toArray, List.getElem_cons_succ, List.getElem_cons_zero, Act.put, List.setIfInBounds_toArray, List.set_cons_zero, List.set_cons_succ])
              refine wpAnyH_take (i := 3) (v := ?_) rfl (by kernel_rfl) (by kernel_rfl) (by kernel_rfl) (fun _ _ _ h => h) (Or.inl ⟨by rfl, ?_⟩) (by assumption) ?_; rotate_left; (intro w hSw; (try dsimp only at hSw); go_simp; (first | done | (with_reducible rfl))); (try simp only [List.getElem_toArray, List.getElem_cons_succ, List.getElem_cons_zero, Act.put, List.setIfInBounds_toArray, List.set_cons_zero, List.set_cons_succ])
              refine wpAnyH_take (i := 6) (v := ?_) rfl (by kernel_rfl) (by kernel_rfl) (by kernel_rfl) (fun _ _ _ h => h) (Or.inl ⟨by rfl, ?_⟩) (by assumption) ?_; rotate_left; (intro w hSw; (try dsimp only at hSw); go_simp; (first | done | (with_reducible rfl))); (try simp only [List.getElem_toArray, List.getElem_cons_succ, List.getElem_cons_zero, Act.put, List.setIfInBounds_toArray, List.set_cons_zero, List.set_cons_succ])
              refine wpAnyH_take (i := 7) (v := ?_) rfl (by kernel_rfl) (by kernel_rfl) (by kernel_rfl) (fun _ _ _ h => h) (Or.inl ⟨by rfl, ?_⟩) (by assumption) ?_; rotate_left; (intro w hSw; (try dsimp only at hSw); go_simp; (first | done | (with_reducible rfl))); (try simp only [List.getElem_toArray, List.getElem_cons_succ, List.getElem_cons_zero, Act.put, List.setIfInBounds_toArray, List.set_cons_zero, List.set_cons_succ])
              refine wpAnyH_take (i := 8) (v := ?_) rfl (by kernel_rfl) (by kernel_rfl) (by kernel_rfl) (fun _ _ _ h => h) (Or.inl ⟨by rfl, ?_⟩) (by assumption) ?_; rotate_left; (intro w hSw; (try dsimp only at hSw); go_simp; (first | done | (with_reducible rfl))); (try simp only [List.getElem_toArray, List.getElem_cons_succ, List.getElem_cons_zero, Act.put, List.setIfInBounds_toArray, List.set_cons_zero, List.set_cons_succ])
              refine wpAnyH_take (i := 11) (v := ?_) rfl (by kernel_rfl) (by kernel_rfl) (by kernel_rfl) (fun _ _ _ h => h) (Or.inl ⟨by rfl, ?_⟩) (by assumption) ?_; rotate_left; (intro w hSw; (try dsimp only at hSw); go_simp; (first | done | (with_reducible rfl))); (try simp only [List.getElem_toArray, List.getElem_cons_succ, List.getElem_cons_zero, Act.put, List.setIfInBounds_toArray, List.set_cons_zero, List.set_cons_succ])
              refine wpAnyH_take (i := 4) (v := ?_) rfl (by kernel_rfl) (by kernel_rfl) (by kernel_rfl) (fun _ _ _ h => h) (Or.inl ⟨by rfl, ?_⟩) (by assumption) ?_; rotate_left; (intro w hSw; (try dsimp only at hSw); go_simp; (first | done | (with_reducible rfl))); (try simp only [List.getElem_toArray, List.getElem_cons_succ, List.getElem_cons_zero, Act.put, List.setIfInBounds_toArray, List.set_cons_zero, List.set_cons_succ])
              refine wpAnyH_take (i := 9) (v := ?_) rfl (by kernel_rfl) (by kernel_rfl) (by kernel_rfl) (fun _ _ _ h => h) (Or.inl ⟨by rfl, ?_⟩) (by assumption) ?_; rotate_left; (intro w hSw; (try dsimp only at hSw); go_simp; (first | done | (with_reducible rfl))); (try simp only [List.getElem_toArray, List.getElem_cons_succ, List.getElem_cons_zero, Act.put, List.setIfInBounds_toArray, List.set_cons_zero, List.set_cons_succ])
              refine wpAnyH_take (i := 10) (v := ?_) rfl (by kernel_rfl) (by kernel_rfl) (by kernel_rfl) (fun _ _ _ h => h) (Or.inl ⟨by rfl, ?_⟩) (by assumption) ?_; rotate_left; (intro w hSw; (try dsimp only at hSw); go_simp; (first | done | (with_reducible rfl))); (try simp only [List.getElem_toArray, List.getElem_cons_succ, List.getElem_cons_zero, Act.put, List.setIfInBounds_toArray, List.set_cons_zero, List.set_cons_succ])
              refine wpAnyH_take (i := 12) (v := ?_) rfl (by kernel_rfl) (by kernel_rfl) (by kernel_rfl) (fun _ _ _ h => h) (Or.inl ⟨by rfl, ?_⟩) (by assumption) ?_; rotate_left; (intro w hSw; (try dsimp only at hSw); go_simp; (first | done | (with_reducible rfl))); (try simp only [List.getElem_toArray, List.getElem_cons_succ, List.getElem_cons_zero, Act.put, List.setIfInBounds_toArray, List.set_cons_zero, List.set_cons_succ])
              refine wpAnyH_take (i := 13) (v := ?_) rfl (by kernel_rfl) (by kernel_rfl) (by kernel_rfl) (fun _ _ _ h => h) (Or.inl ⟨by rfl, ?_⟩) (by assumption) ?_; rotate_left; (intro w hSw; (try dsimp only at hSw); go_simp; (first | done | (with_reducible rfl))); (try simp only [List.getElem_toArray, List.getElem_cons_succ, List.getElem_cons_zero, Act.put, List.setIfInBounds_toArray, List.set_cons_zero, List.set_cons_succ])
              refine wpAnyH_ready (rs := [5, 14]) (by kernel_rfl) (by simp) ?_
              refine AllReadyH.cons rfl (fun K hK => ?_) (AllReadyH.cons rfl (fun K hK => ?_) AllReadyH.nil)
              · go_simp
                go_wp2_with fail
                refine hK.out _ _ ⟨hcbD, hcyD⟩ (fun hHeld => ?_); clear hK K; (try simp only [List.getElem_toArray, List.getElem_cons_succ, List.getElem_cons_zero, Act.put, List.setIfInBounds_toArray, List.set_cons_zero, List.set_cons_succ])
                refine wpAnyH_ready (rs := [14]) (by kernel_rfl) (by simp) ?_; refine AllReadyH.cons rfl (fun K hK => ?_) AllReadyH.nil
                go_simp
                refine (rmul_calls x z).mono ?_
                rintro e w' ⟨rfl, rfl⟩
                go_wp2_with fail
                refine hK.out _ _ ⟨hcbD, hcyD⟩ (fun hHeld => ?_); clear hK K; (try simp only [List.getElem_toArray, List.getElem_cons_succ, List.getElem_cons_zero, Act.put, List.setIfInBounds_toArray, List.set_cons_zero, List.set_cons_succ])
                refine wpAnyH_take (i := 15) (v := ?_) rfl (by kernel_rfl) (by kernel_rfl) (by kernel_rfl) (fun _ _ _ h => h) (Or.inl ⟨by rfl, ?_⟩) (by assumption) ?_; rotate_left; (intro w hSw; (try dsimp only at hSw); go_simp; (first | done | (with_reducible rfl))); (try simp only [List.getElem_toArray, List.getElem_cons_succ, List.getElem_cons_zero, Act.put, List.setIfInBounds_toArray, List.set_cons_zero, List.set_cons_succ])
                refine wpAnyH_take (i := 16) (v := ?_) rfl (by kernel_rfl) (by kernel_rfl) (by kernel_rfl) (fun _ _ _ h => h) (Or.inl ⟨by rfl, ?_⟩) (by assumption) ?_; rotate_left; (intro w hSw; (try dsimp only at hSw); go_simp; (first | done | (with_reducible rfl))); (try simp only [List.getElem_toArray, List.getElem_cons_succ, List.getElem_cons_zero, Act.put, List.setIfInBounds_toArray, List.set_cons_zero, List.set_cons_succ])
                refine wpAnyH_ready (rs := [17]) (by kernel_rfl) (by simp) ?_; refine AllReadyH.cons rfl (fun K hK => ?_) AllReadyH.nil
                go_simp
                go_wp2_with fail
                have hgs := grown_set WD w1.heap.size k (bv (y ^^^ gm x z))
                have HX := b8_xor y (gm x z)
                rw [HX]
                clear HX
                have hcb7 := hgs.cell hcbD (by simp; omega)
                have hcy7 := hgs.cell hcyD (by simp; omega)
                refine hK.out _ _ ⟨hcb7, hcy7⟩ (fun hHeld => ?_)
                clear hK K
                (try simp only [List.getElem_toArray, List.getElem_cons_succ, List.getElem_cons_zero, Act.put, List.setIfInBounds_toArray, List.set_cons_zero, List.set_cons_succ])
                refine wpAnyH_done (by kernel_rfl) ?_ _
                go_wp2_with fail
                have hst := hRD.set k (y ^^^ gm x z)
                rw [hRR.out] at hst
                exact ⟨⟨l + 1, by omega, by go_num, by rw [HF1.out]; exact hst, hBD.setCell (Nat.le_refl _) _⟩, by simp [intOf]; omega⟩
              · go_simp
                refine (rmul_calls x z).mono ?_
                rintro e w' ⟨rfl, rfl⟩
                go_wp2_with fail
                refine hK.out _ _ ⟨hcbD, hcyD⟩ (fun hHeld => ?_); clear hK K; (try simp only [List.getElem_toArray, List.getElem_cons_succ, List.getElem_cons_zero, Act.put, List.setIfInBounds_toArray, List.set_cons_zero, List.set_cons_succ])
                refine wpAnyH_ready (rs := [5]) (by kernel_rfl) (by simp) ?_; refine AllReadyH.cons rfl (fun K hK => ?_) AllReadyH.nil
                go_simp
                go_wp2_with fail
                refine hK.out _ _ ⟨hcbD, hcyD⟩ (fun hHeld => ?_); clear hK K; (try simp only [List.getElem_toArray, List.getElem_cons_succ, List.getElem_cons_zero, Act.put, List.setIfInBounds_toArray, List.set_cons_zero, List.set_cons_succ])
                refine wpAnyH_take (i := 15) (v := ?_) rfl (by kernel_rfl) (by kernel_rfl) (by kernel_rfl) (fun _ _ _ h => h) (Or.inl ⟨by rfl, ?_⟩) (by assumption) ?_; rotate_left; (intro w hSw; (try dsimp only at hSw); go_simp; (first | done | (with_reducible rfl))); (try simp only [List.getElem_toArray, List.getElem_cons_succ, List.getElem_cons_zero, Act.put, List.setIfInBounds_toArray, List.set_cons_zero, List.set_cons_succ])
                refine wpAnyH_take (i := 16) (v := ?_) rfl (by kernel_rfl) (by kernel_rfl) (by kernel_rfl) (fun _ _ _ h => h) (Or.inl ⟨by rfl, ?_⟩) (by assumption) ?_; rotate_left; (intro w hSw; (try dsimp only at hSw); go_simp; (first | done | (with_reducible rfl))); (try simp only [List.getElem_toArray, List.getElem_cons_succ, List.getElem_cons_zero, Act.put, List.setIfInBounds_toArray, List.set_cons_zero, List.set_cons_succ])
                refine wpAnyH_ready (rs := [17]) (by kernel_rfl) (by simp) ?_; refine AllReadyH.cons rfl (fun K hK => ?_) AllReadyH.nil
                go_simp
                go_wp2_with fail
                have hgs := grown_set WD w1.heap.size k (bv (y ^^^ gm x z))
                have HX := b8_xor y (gm x z)
                rw [HX]
                clear HX
                have hcb7 := hgs.cell hcbD (by simp; omega)
                have hcy7 := hgs.cell hcyD (by simp; omega)
                refine hK.out _ _ ⟨hcb7, hcy7⟩ (fun hHeld => ?_)
                clear hK K
                (try simp only [List.getElem_toArray, List.getElem_cons_succ, List.getElem_cons_zero, Act.put, List.setIfInBounds_toArray, List.set_cons_zero, List.set_cons_succ])
                refine wpAnyH_done (by kernel_rfl) ?_ _
                go_wp2_with fail
                have hst := hRD.set k (y ^^^ gm x z)
                rw [hRR.out] at hst
                exact ⟨⟨l + 1, by omega, by go_num, by rw [HF1.out]; exact hst, hBD.setCell (Nat.le_refl _) _⟩, by simp [intOf]; omega⟩
            · obtain rfl : n = l := by omega
              have HN := Lib.hid (mulRow_next n (MA i) MB k)
              go_wp2_with fail
              exact ⟨⟨k + 1, by omega, by go_num, by rw [← HN.out]; exact hRl, hbl⟩, by simp [intOf]; omega⟩
        · obtain rfl : c = k := by omega
          rw [mulRow_end] at hR
          have hb5 : Below w1.heap.size w1 (wr.alloc (.cells #[.slice (some ⟨w1.heap.size, 0, none⟩) c c] 22)) := hbq.alloc hbq.size _
          have hG5 := HG.out.below hb5
          have hR5 := hR.below (below1' wr (.cells #[.slice (some ⟨w1.heap.size, 0, none⟩) c c] 22)) hR.lt
          have hne5 : ∀ t, t < i → blk t ≠ w1.heap.size := fun t ht he => by have := (HG.out.row t ht).lt; omega
          go_wp2_with (at_builtin; refine app_head rfl (.tmp 72) (.tmp 74) rfl w.heap.size rfl hG5.own rfl (news := [.slice (some ⟨w1.heap.size, 0, none⟩) c c]) rfl (at_lit1 _ _ _) (by intro u hu; rw [List.mem_singleton] at hu; subst hu; rfl) (by simp) (by omega) (by have := hb5.size; omega) ?_; intro A4 c4 w4 ho4 hb4 hg4 hc4)
          have hG6 := hG5.snoc (M := mulM n MA MB) hR5 hzw hne5 ho4 hg4 rfl
          exact ⟨⟨i + 1, A4, c4, _, by omega, by go_num, rfl, hG6, (hb.trans (hb5.mono hzw)).trans hb4⟩, by simp [intOf]; omega⟩
    · obtain rfl : i = r := by omega
      go_wp2_with fail
      go_ret2
      exact ⟨_, _, _, rfl, hG, hb⟩

end Go.Proofs.YtibidlgikecelaaDoor

namespace Go.Proofs.YtibidlgikecelaaDoor
open Go.RowKit
set_option linter.unusedVariables false
set_option linter.unusedSimpArgs false

/-- append([]byte{}, x...): a text of one's own. -/
theorem app_fresh {w : World} {ops : Array Oper} {rest : List Oper} {o : Oper} {a : Act} {Q : Exit → Act → World → Prop}
    (hg : o.guard = none) (s x : Operand) (hop : o.op = Op.call { callee := Callee.builtin Builtin.append, args := #[s, x], argTypes := #[22, 22] })
    (hs : a.eval s = .slice (some ⟨w.heap.size, 0, none⟩) 0 0) {A : Option Addr} {m c : Nat} (hx : a.eval x = .slice A m c) {news : List B8} (hl : news.length = m) (hA : At w A (bys news))
    (hnil : A = none → c = 0) (hbytes : m ≤ 140737488355328)
    (hK : ∀ A' c' w', w'.ownsRow w.heap.size 5 1 (.slice A' m c') m (bys news) → Below w.heap.size w w' → wpList Tryd.prog ops Q rest (a.put o.dst (.slice A' m c')) w') :
    wpList Tryd.prog ops Q (o :: rest) a (w.alloc (.cells #[] 5)) := by
  refine app_bytes hg s x hop w.heap.size hs (xs := []) (World.ownsRow_lit w #[] 0 (Nat.le_refl _) (by decide) rfl) hx hl (hA.below (below1' w _)) hnil (by omega) (by simp) ?_
  intro A' c' w' ho hb hgr hc
  simp only [Nat.zero_add, List.nil_append] at ho ⊢
  exact hK A' c' w' ho ((below1' w _).trans hb)
theorem rowsL_succ (i c : Nat) (M : Mx) : rowsL (i + 1) c M = rowsL i c M ++ [rowL c (M i)] := by
  unfold rowsL
  rw [List.range_succ, List.map_append]
  rfl
/-- One more text of one's own. -/
theorem OwnT.push {w w2 w3 w' : World} {B cap : Nat} {A : Option Addr} {vs : List Value} {LL : List (List B8)} {A2 A' : Option Addr} {c2 cap' : Nat} {l : List B8} {n i : Nat}
    (h : OwnT w B A cap vs LL) (hB : B ≤ w.heap.size) (hl : l.length = n) (hm : n ≤ 140737488351232) (hr : w2.ownsRow w.heap.size 5 1 (.slice A2 n c2) n (bys l)) (hi : LL.length = i)
    (hb : Below w.heap.size w w3) (hb2 : Below w2.heap.size w2 w3)
    (ho : w'.ownsRow B 22 1 (.slice A' (i + 1) cap') (i + 1) (vs ++ [.slice A2 n c2])) (hg : w3.grownBy w' (Value.slice A i cap).ownBlock) : OwnT w' B A' cap' (vs ++ [.slice A2 n c2]) (LL ++ [l]) := by
  subst hl hi
  have ho3 := own_below hr hb2
  refine (h.below hb).snoc (own_lower ho3 hB) hm ?_ ho hg
  intro k u hu b hb' he
  have h1 := (own_lower ho3 (Nat.le_refl _)).lt b he
  obtain ⟨x, hx⟩ : ∃ x, LL[k]? = some x := ⟨_, List.getElem?_eq_getElem (by rw [← h.len]; exact (List.getElem?_eq_some_iff.1 hu).1)⟩
  have h2 := (h.row k u x hu hx).1.lt b hb'
  omega

set_option maxHeartbeats 1000000 in
set_option maxRecDepth 100000 in
theorem rrows_calls {w : World} {A Al : Option Addr} {r c m cA cl : Nat} {vA : List Value} {M : Mx} {l : List Int} (hA : At w A vA) (hLA : Texts w vA (rowsL r c M)) (hl : At w Al (ints l)) (hm : m = l.length)
    (hr : 0 < r) (hr2 : r ≤ 255) (hc : 0 < c) (hc2 : c ≤ 255) (hl1 : 0 < l.length) (hl2 : l.length ≤ 255) :
    Calls Tryd.prog 47 #[.slice A r cA, .slice Al m cl] w (RetX w (if wrongIx r l = -1 then rowsL l.length c (pickM l M) else []) (if wrongIx r l = -1 then 0 else 1)) := by
  subst hm
  have hri : (0 : Int) < (r : Int) := by omega
  obtain ⟨ba, oa, rfl, hba⟩ := heads_some hA hLA (by simpa using hr)
  have hisA := Lib.hid (ris_calls (c := cA) hA hLA (by simp : r = _))
  rw [rowsL_isB M hr hr2 hc hc2] at hisA
  have d1 : decide ((l.length : Int) < (1 : Int)) = false := decide_eq_false (by omega)
  have d2 : decide ((255 : Int) < (l.length : Int)) = false := decide_eq_false (by omega)
  have HYES := Lib.hid (fun (h : ∀ (i : Nat) (y : Int), i < l.length → l[i]? = some y → ¬ (y < 0 ∨ (r : Int) ≤ y)) => wrong_no h)
  have HNO := Lib.hid (fun (j : Nat) (x : Int) (hj : l[j]? = some x) (hx : x < 0 ∨ (r : Int) ≤ x) (h : ∀ (i : Nat) (y : Int), i < j → l[i]? = some y → ¬ (y < 0 ∨ (r : Int) ≤ y)) => (by rw [wrong_at hj hx h]; omega : wrongIx r l ≠ -1))
  have HW : ∀ (RL : List (List B8)) (E : Int), RL = (if wrongIx r l = -1 then rowsL l.length c (pickM l M) else []) → E = (if wrongIx r l = -1 then 0 else 1) → Calls Tryd.prog 47 #[.slice (some ⟨ba, oa, none⟩) r cA, .slice Al l.length cl] w (RetX w RL E) := by
    intro RL E hRL hE
    generalize wrongIx r l = z at *
    have HRL := Lib.hid hRL
    have HE := Lib.hid hE
    clear hRL hE
    go_enter Tryd.func47, Tryd.ntmps47
    go_wp2_with fail
    refine hisA.out.mono ?_
    rintro e w' ⟨rfl, rfl⟩
    go_wp2_with fail
    clear hisA
    go_loopw [6, 24] (fun s6 s wr => ∃ (i : Nat) (A' : Option Addr) (cap : Nat) (xs : List Value), i ≤ l.length ∧ s = .int .i64 ((i : Nat) : Int) ∧ s6 = .slice A' i cap ∧ OwnT wr w.heap.size A' cap xs (rowsL i c (pickM l M)) ∧ Below w.heap.size w wr ∧ Hid (∀ (k : Nat) (y : Int), k < i → l[k]? = some y → ¬ (y < 0 ∨ (r : Int) ≤ y))) (fun _ s _ => l.length - (intOf s).toNat)
    case atStart => exact ⟨0, none, 0, [], by omega, rfl, rfl, OwnT.nil _ _, Below.refl _ _, fun k y hk => by omega⟩
    case round =>
      obtain ⟨i, A', cap, xs, hi, rfl, rfl, hO, hb, HALL⟩ := hrel
      rename World => w1
      by_cases hil : i < l.length
      · have hii : (i : Int) < (l.length : Int) := by omega
        obtain ⟨bl, ol, rfl, hcl⟩ := hl.int hil
        have hclw := (hb.cell (p := ⟨bl, ol + i, none⟩) (block_lt hcl)).trans hcl
        have hx : l[i]? = some l[i] := List.getElem?_eq_getElem hil
        generalize l[i] = x at *
        have HX := Lib.hid hx
        by_cases hw1 : x < 0
        · have e1 : decide (x < (0 : Int)) = true := decide_eq_true hw1
          have HZ := Lib.hid (HNO.out i x hx (.inl hw1) HALL.out)
          clear hx hcl
          go_wp2_with fail
          go_ret2
          rw [HRL.out, HE.out, if_neg HZ.out, if_neg HZ.out]
          exact ⟨none, 0, [], rfl, At.nil _ _, Texts.nil _, hb⟩
        have e1 : decide (x < (0 : Int)) = false := decide_eq_false hw1
        by_cases hw2 : (r : Int) ≤ x
        · have HZ := Lib.hid (HNO.out i x hx (.inr hw2) HALL.out)
          clear hx hcl
          go_wp2_with fail
          go_ret2
          rw [HRL.out, HE.out, if_neg HZ.out, if_neg HZ.out]
          exact ⟨none, 0, [], rfl, At.nil _ _, Texts.nil _, hb⟩
        obtain ⟨y, rfl⟩ := Int.eq_ofNat_of_zero_le (by omega : 0 ≤ x)
        have hyr : y < r := by omega
        have hyri : ((y : Nat) : Int) < (r : Int) := by omega
        obtain ⟨X, cx, hca, hXA, _, hXnil⟩ := row_head hA hLA hyr
        have hcaw := (hb.cell (p := ⟨ba, oa + y, none⟩) hba).trans hca
        have hP := Lib.hid (pickM_at (M := M) hx)
        have HO := Lib.hid hO
        have hzw := hb.size
        have hXw := hXA.below hb
        have hcaw2 := ((below1' w1 (.cells #[] 5)).cell (p := ⟨ba, oa + y, none⟩) (block_lt hcaw)).trans hcaw
        clear hx hcl hca hO hw1 hw2
        go_wp2_with (first
          | (at_builtin; refine app_fresh rfl (.tmp 37) (.tmp 41) rfl rfl rfl (by simp) hXw hXnil (by omega) ?_; intro A2 c2 w2 ho2 hb2; have hb3 := hb2.trans ((below1' w2 (.cells #[.slice A2 c c2] 22)).mono hb2.size); have hO3 := HO.out.below hb3; have hhead := hO3.own; rw [length_rowsL] at hhead; have hz3 := hb3.size)
          | (at_builtin; refine app_head rfl (.tmp 36) (.tmp 43) rfl w.heap.size rfl hhead rfl (news := [.slice A2 c c2]) rfl (at_lit1 _ _ _) (by intro u hu; rw [List.mem_singleton] at hu; subst hu; rfl) (by simp) (by omega) (by omega) ?_; intro A4 c4 w4 ho4 hb4 hg4 hc4))
        have hO4 : OwnT w4 w.heap.size A4 c4 (xs ++ [.slice A2 c c2]) (rowsL (i + 1) c (pickM l M)) := by
          rw [rowsL_succ, hP.out]
          exact HO.out.push hzw (by simp) (by omega) ho2 (by simp) hb3 (below1' _ _) ho4 hg4
        refine ⟨⟨i + 1, A4, c4, _, by omega, by go_num, rfl, hO4, (hb.trans (hb3.mono hzw)).trans hb4, fun k u hk hu => ?_⟩, by simp [intOf]; omega⟩
        by_cases hki : k < i
        · exact HALL.out k u hki hu
        · obtain rfl : k = i := by omega
          rw [HX.out] at hu
          cases hu
          omega
      · obtain rfl : i = l.length := by omega
        have HZ := Lib.hid (HYES.out HALL.out)
        go_wp2_with fail
        go_ret2
        rw [HRL.out, HE.out, if_pos HZ.out, if_pos HZ.out]
        exact ⟨A', cap, xs, by simp, hO.at, hO.texts, hb⟩
  exact HW _ _ rfl rfl

set_option maxHeartbeats 800000 in
set_option maxRecDepth 100000 in
theorem rrows_no {w : World} {A Al : Option Addr} {n m cA cl : Nat} {vA : List Value} {L : List (List B8)} {l : List Int} (hA : At w A vA) (hLA : Texts w vA L) (hn : n = L.length) (hm : m = l.length) (h : isB L = false ∨ m < 1 ∨ 255 < m) :
    Calls Tryd.prog 47 #[.slice A n cA, .slice Al m cl] w (RetE w 1) := by
  have hisA := Lib.hid (ris_calls (c := cA) hA hLA hn)
  cases hb : isB L with
  | false =>
    rw [hb] at hisA
    clear h hb hn hm hA hLA
    go_enter Tryd.func47, Tryd.ntmps47
    go_wp2_with fail
    refine hisA.out.mono ?_
    rintro e w' ⟨rfl, rfl⟩
    go_wp2_with fail
    go_ret2
    exact ⟨rfl, Below.refl _ _⟩
  | true =>
    rw [hb] at hisA h
    by_cases h1 : m < 1
    · have d1 : decide ((m : Int) < (1 : Int)) = true := decide_eq_true (by omega)
      clear h hb h1 hn hm hA hLA
      go_enter Tryd.func47, Tryd.ntmps47
      go_wp2_with fail
      refine hisA.out.mono ?_
      rintro e w' ⟨rfl, rfl⟩
      go_wp2_with fail
      go_ret2
      exact ⟨rfl, Below.refl _ _⟩
    · have d1 : decide ((m : Int) < (1 : Int)) = false := decide_eq_false (by omega)
      have hm255 : 255 < m := by
        rcases h with h | h | h
        · cases h
        · omega
        · exact h
      have d2 : decide ((255 : Int) < (m : Int)) = true := decide_eq_true (by omega)
      clear h hb h1 hn hm hm255 hA hLA
      go_enter Tryd.func47, Tryd.ntmps47
      go_wp2_with fail
      refine hisA.out.mono ?_
      rintro e w' ⟨rfl, rfl⟩
      go_wp2_with fail
      go_ret2
      exact ⟨rfl, Below.refl _ _⟩

end Go.Proofs.YtibidlgikecelaaDoor
