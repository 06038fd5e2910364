/- Contract: matrix.Invert. -/
import Derived.Test.YtibidlgikecelaaDoorW16
namespace Go.Proofs.YtibidlgikecelaaDoor
open Go.RowKit
set_option linter.unusedVariables false
set_option linter.unusedSimpArgs false

theorem RowB.ne_box {w : World} {k m cb : Nat} {f : Nat → B8} {x : Int} (h : RowB w k (rowL m f)) (hm : 0 < m) (hb : w.cell? ⟨cb, 0, none⟩ = some (.int .i64 x)) : k ≠ cb := by
  intro he
  have := h.cell (rowL_get (f := f) hm)
  rw [he, hb] at this
  cases this
theorem Grid.ne_box {w : World} {B g r m cb : Nat} {blk : Nat → Nat} {W : Mx} {x : Int} (h : Grid w B g blk r m W) (hr : 0 < r) (hb : w.cell? ⟨cb, 0, none⟩ = some (.int .i64 x)) : g ≠ cb := by
  intro he
  have := h.cell hr
  rw [he, hb] at this
  cases this
theorem Grid.keep {w w' : World} {B g r m t : Nat} {blk : Nat → Nat} {W : Mx} (h : Grid w B g blk r m W) (hg : w.grownBy w' (some t)) (h1 : g ≠ t) (h2 : ∀ k, k < r → blk k ≠ t) : Grid w' B g blk r m W :=
  ⟨by rw [hg.block g h.ltG (by simpa using h1)]; exact h.top, fun i hi => (h.row i hi).grown hg (by simpa using h2 i hi), h.inj, h.geG, h.geB⟩
theorem scaleAt_at (c : Nat) (W : Mx) (u : B8) (k : Nat) : scaleAt c W u k c k = W c k := by simp [scaleAt, putR]
theorem RowB.at_drop {w : World} {k n : Nat} {f : Nat → B8} (h : RowB w k (rowL (2 * n) f)) : At w (some ⟨k, n, none⟩) (bys (rowL n (fun j => f (n + j)))) := by
  intro i x hx
  refine ⟨k, n, rfl, ?_⟩
  rw [cell_of_row w k (n + i) _ _ (0, 0) h, List.getElem?_toArray, ← hx, bys_getElem?, bys_getElem?]
  by_cases hi : i < n
  · rw [rowL_get hi, rowL_get (by omega)]
  · rw [bys_getElem?, List.getElem?_eq_none (by simpa using hi)] at hx
    cases hx
/-- What Invert answers. -/
def RetInv (w : World) (n : Nat) : Option Mx → Ending → World → Prop
  | some R, e, w' => RetM w n n R e w'
  | none, e, w' => RetE w 20 e w'
theorem inv_of_none {n : Nat} {M : Mx} (h : elimM n n 0 (sideM n M) = none) : invM n M = none := by unfold invM; rw [h]; rfl
theorem inv_of_some {n : Nat} {M W : Mx} (h : elimM n n 0 (sideM n M) = some W) : invM n M = some (fun i j => W i (n + j)) := by unfold invM; rw [h]; rfl
theorem elim_none {n k c : Nat} {W : Mx} (h : pivotM n c W = none) : elimM n (k + 1) c W = none := by
  simp [elimM, stepM, h]
theorem elim_some {n k c p : Nat} {W : Mx} (h : pivotM n c W = some p) : elimM n (k + 1) c W = elimM n k (c + 1) (clearM c (swapM c p W)) := by
  simp [elimM, stepM, h]

theorem side_step {n i : Nat} (M : Mx) (hi : i < n) :
    putR (putR (topAt i (sideM n M)) i (fun j => if j < n then M i j else 0#8)) i (fun j => if j = n + i then 1#8 else putR (topAt i (sideM n M)) i (fun j => if j < n then M i j else 0#8) i j) = topAt (i + 1) (sideM n M) := by
  have h1 : (fun j => if j = n + i then 1#8 else putR (topAt i (sideM n M)) i (fun j => if j < n then M i j else 0#8) i j) = sideM n M i := by
    rw [← side_row M hi]
    funext j
    simp [putR]
  rw [h1, ← topAt_step]
  funext r
  unfold putR
  by_cases h : r = i <;> simp [h]

set_option maxHeartbeats 2000000 in
set_option maxRecDepth 100000 in
theorem invert_calls {w : World} {A : Option Addr} {n cA : Nat} {vA : List Value} {M : Mx} (hA : At w A vA) (hLA : Texts w vA (rowsL n n M)) (hn : 0 < n) (hn2 : n ≤ 255) (hF : FoldAt w) :
    Calls Tryd.prog 27 #[.slice A n cA] w (RetInv w n (invM n M)) := by
  have hni : (0 : Int) < (n : Int) := by omega
  obtain ⟨ba, oa, rfl, hba⟩ := heads_some hA hLA (by simpa using hn)
  obtain ⟨XA0, cA0, hA0, _, _, _⟩ := row_head hA hLA hn
  rw [Nat.add_zero] at hA0
  have hisA := Lib.hid (is_calls (c := cA) hA hLA (by simp : n = _))
  rw [rowsL_isB M hn hn2 hn hn2] at hisA
  have hnn : ((n : Int) != (n : Int)) = false := by simp
  go_enter Tryd.func27, Tryd.ntmps27
  go_wp2_with fail
  refine hisA.out.mono ?_
  rintro e w1 ⟨rfl, hb1⟩
  have hA01 := (hb1.cell (p := ⟨ba, oa, none⟩) hba).trans hA0
  go_wp2_with fail
  refine (show Calls Tryd.prog 60 #[.int .i64 (n : Int), .int .i64 (2 * (n : Int))] w1 _ from (by have h := grid_calls (w := w1) (r := n) (c := 2 * n) (by omega) (by omega); rw [Int.natCast_mul] at h; exact h)).mono ?_
  rintro e w2 ⟨g, blk0, rfl, hG, hb2⟩
  have hB2 : Below w.heap.size w w2 := hb1.trans (hb2.mono hb1.size)
  have hz2 := hB2.size
  replace hG := hG.lower hb1.size
  have hsz1 := hb1.size
  clear hA01 hb2
  go_wp2_with fail
  go_loopw [36] (fun s wr => ∃ i : Nat, i ≤ n ∧ s = .int .i64 ((i : Nat) : Int) ∧ Grid wr w.heap.size g blk0 n (2 * n) (topAt i (sideM n M)) ∧ Below w.heap.size w wr) (fun s _ => n - (intOf s).toNat)
  case atStart => exact ⟨0, by omega, rfl, by rw [topAt_start]; exact hG, hB2⟩
  case round =>
    obtain ⟨i, hi, rfl, hGr, hBr⟩ := hrel
    clear hG hB2
    by_cases hin : i < n
    · have hii : (i : Int) < (n : Int) := by omega
      obtain ⟨X, cx, hca, hXA, _, _⟩ := row_head hA hLA hin
      have hcaw := (hBr.cell (p := ⟨ba, oa + i, none⟩) hba).trans hca
      have hcg := hGr.cell hin
      have hrow := hGr.row i hin
      have htop : rowL (2 * n) (topAt i (sideM n M) i) = rowL (2 * n) (fun _ => 0#8) := rowL_congr fun j _ => by simp [topAt]
      rw [htop] at hrow
      have hXw := hXA.below hBr
      have hgl := hGr.ne hin
      have hbl := hGr.geB i hin
      go_wp2_with fail
      have hcgD : wr.drew.cell? ⟨g, i, none⟩ = some (.slice (some ⟨blk0 i, 0, none⟩) (2 * n) (2 * n)) := hcg
      have hcaD : wr.drew.cell? ⟨ba, oa + i, none⟩ = some (.slice X n cx) := hcaw
      refine wp_region_held_drew (S := fun w' => w'.cell? ⟨g, i, none⟩ = some (.slice (some ⟨blk0 i, 0, none⟩) (2 * n) (2 * n)) ∧ w'.cell? ⟨ba, oa + i, none⟩ = some (.slice X n cx)) (by kernel_rfl) ⟨hcgD, hcaD⟩ (fun hHeld => ?_)
      have hGD : Grid wr.drew w.heap.size g blk0 n (2 * n) (topAt i (sideM n M)) := hGr.below (belowN 1 : Below wr.heap.size wr (wr.drewN 1))
      have hrD : RowB wr.drew (blk0 i) (rowL (2 * n) (fun _ => 0#8)) := hrow
      have hXD : At wr.drew X (bys (rowL n (M i))) := hXw
      have hBD : Below w.heap.size w wr.drew := hBr.trans ((belowN 1 : Below wr.heap.size wr (wr.drewN 1)).mono hBr.size)
      generalize wr.drew = WD at *
      clear hcg hcaw hrow hXw hGr hBr
      refine wpAnyH_take (i := 0) (v := ?_) rfl (by kernel_rfl) (by kernel_rfl) (by kernel_rfl) (fun _ _ _ h => h) (Or.inl ⟨by rfl, ?_⟩) (by assumption) ?_; rotate_left; (intro w hSw; (try dsimp only at hSw); go_simp; (first | done | (with_reducible rfl))); (try simp only [List.getElem_toArray, List.getElem_cons_succ, List.getElem_cons_zero, Act.put, List.setIfInBounds_toArray, List.set_cons_zero, List.set_cons_succ])
      refine wpAnyH_take (i := 1) (v := ?_) rfl (by kernel_rfl) (by kernel_rfl) (by kernel_rfl) (fun _ _ _ h => h) (Or.inl ⟨by rfl, ?_⟩) (by assumption) ?_; rotate_left; (intro w hSw; (try dsimp only at hSw); go_simp; (first | done | (with_reducible rfl))); (try simp only [List.getElem_toArray, List.getElem_cons_succ, List.getElem_cons_zero, Act.put, List.setIfInBounds_toArray, List.set_cons_zero, List.set_cons_succ])
      refine wpAnyH_take (i := 2) (v := ?_) rfl (by kernel_rfl) (by kernel_rfl) (by kernel_rfl) (fun _ _ _ h => h) (Or.inl ⟨by rfl, ?_⟩) (by assumption) ?_; rotate_left; (intro w hSw; (try dsimp only at hSw); go_simp; (first | done | (with_reducible rfl))); (try simp only [List.getElem_toArray, List.getElem_cons_succ, List.getElem_cons_zero, Act.put, List.setIfInBounds_toArray, List.set_cons_zero, List.set_cons_succ])
      refine wpAnyH_take (i := 3) (v := ?_) rfl (by kernel_rfl) (by kernel_rfl) (by kernel_rfl) (fun _ _ _ h => h) (Or.inl ⟨by rfl, ?_⟩) (by assumption) ?_; rotate_left; (intro w hSw; (try dsimp only at hSw); go_simp; (first | done | (with_reducible rfl))); (try simp only [List.getElem_toArray, List.getElem_cons_succ, List.getElem_cons_zero, Act.put, List.setIfInBounds_toArray, List.set_cons_zero, List.set_cons_succ])
      refine wpAnyH_take (i := 4) (v := ?_) rfl (by kernel_rfl) (by kernel_rfl) (by kernel_rfl) (fun _ _ _ h => h) (Or.inl ⟨by rfl, ?_⟩) (by assumption) ?_; rotate_left; (intro w hSw; (try dsimp only at hSw); go_simp; (first | done | (with_reducible rfl))); (try simp only [List.getElem_toArray, List.getElem_cons_succ, List.getElem_cons_zero, Act.put, List.setIfInBounds_toArray, List.set_cons_zero, List.set_cons_succ])
      refine wpAnyH_take (i := 5) (v := ?_) rfl (by kernel_rfl) (by kernel_rfl) (by kernel_rfl) (fun _ _ _ h => h) (Or.inl ⟨by rfl, ?_⟩) (by assumption) ?_; rotate_left; (intro w hSw; (try dsimp only at hSw); go_simp; (first | done | (with_reducible rfl))); (try simp only [List.getElem_toArray, List.getElem_cons_succ, List.getElem_cons_zero, Act.put, List.setIfInBounds_toArray, List.set_cons_zero, List.set_cons_succ])
      refine wpAnyH_take (i := 6) (v := ?_) rfl (by kernel_rfl) (by kernel_rfl) (by kernel_rfl) (fun _ _ _ h => h) (Or.inl ⟨by rfl, ?_⟩) (by assumption) ?_; rotate_left; (intro w hSw; (try dsimp only at hSw); go_simp; (first | done | (with_reducible rfl))); (try simp only [List.getElem_toArray, List.getElem_cons_succ, List.getElem_cons_zero, Act.put, List.setIfInBounds_toArray, List.set_cons_zero, List.set_cons_succ])
      refine wpAnyH_take (i := 7) (v := ?_) rfl (by kernel_rfl) (by kernel_rfl) (by kernel_rfl) (fun _ _ _ h => h) (Or.inl ⟨by rfl, ?_⟩) (by assumption) ?_; rotate_left; (intro w hSw; (try dsimp only at hSw); go_simp; (first | done | (with_reducible rfl))); (try simp only [List.getElem_toArray, List.getElem_cons_succ, List.getElem_cons_zero, Act.put, List.setIfInBounds_toArray, List.set_cons_zero, List.set_cons_succ])
      refine wpAnyH_ready (rs := [8]) (by kernel_rfl) (by simp) ?_; refine AllReadyH.cons rfl (fun K hK => ?_) AllReadyH.nil
      refine step_copy_row rfl (.tmp 42) (.tmp 46) rfl rfl rfl hrD hXD (by rw [length_rowL]; exact (Nat.min_eq_left (by omega)).symm) (by simpa using hn) (by simp; omega) ?_
      intro w4 hr4 hg4
      refine hK.out _ _ ⟨hg4.cell hcgD (by simpa using Ne.symm hgl), hg4.cell hcaD (by simp; omega)⟩ (fun hHeld => ?_)
      clear hK K
      (try simp only [List.getElem_toArray, List.getElem_cons_succ, List.getElem_cons_zero, Act.put, List.setIfInBounds_toArray, List.set_cons_zero, List.set_cons_succ])
      refine wpAnyH_done (by kernel_rfl) ?_ _
      rw [over_side M hin] at hr4
      have hG4 := hGD.setRow hin hg4 hr4
      have hB4 := hBD.trans (below_of_grown hg4 hBD.size (by intro t ht; cases ht; omega))
      have hcg4 := hg4.cell hcgD (by simpa using Ne.symm hgl)
      have hcb4 := hr4.cell (rowL_get (c := 2 * n) (f := fun j => if j < n then M i j else 0#8) (show n + i < 2 * n by omega))
      have hfz4 := hr4.frozen (n + i)
      have hi2 : (n : Int) + (i : Int) < 2 * (n : Int) := by omega
      clear hgl hr4
      go_wp2_with fail
      have hG5 := Grid.put (M := putR (topAt i (sideM n M)) i (fun j => if j < n then M i j else 0#8)) hG4 hin (n + i) 1#8
      rw [side_step M hin] at hG5
      exact ⟨⟨i + 1, by omega, by go_num, hG5, Grid.put_below hG4 hin _ _ hB4⟩, by simp [intOf]; omega⟩
    · obtain rfl : n = i := by omega
      replace hGr := hGr.congr (topAt_end _ _ _)
      clear hi hin hA0 hisA
      go_wp2_with fail
      go_loopw [58] (fun s wr => ∃ (c : Nat) (blk : Nat → Nat) (W : Mx), c ≤ n ∧ s = .int .i64 ((c : Nat) : Int) ∧ Grid wr w.heap.size g blk n (2 * n) W ∧ Below w.heap.size w wr ∧ Hid (elimM n (n - c) c W = elimM n n 0 (sideM n M))) (fun s _ => n - (intOf s).toNat)
      case atStart => exact ⟨0, blk0, sideM n M, by omega, rfl, hGr, hBr, rfl⟩
      case round =>
        obtain ⟨c, blk, W, hc, rfl, hGw, hBw, HE⟩ := hrel
        clear hGr hBr
        by_cases hcn : c < n
        · have hci : (c : Int) < (n : Int) := by omega
          have hci2 : (c : Int) ≤ (n : Int) := by omega
          go_wp2_with fail
          have hbA := below1' wr (.cells #[.int .i64 (c : Int)] 3)
          have hbox := box_cell wr (.int .i64 (c : Int)) 3
          have hza : (wr.alloc (.cells #[.int .i64 (c : Int)] 3)).heap.size = wr.heap.size + 1 := by simp
          have hGa := hGw.below hbA
          have hBa := hBw.trans (hbA.mono hBw.size)
          have hzw := hBw.size
          generalize wr.alloc (.cells #[.int .i64 (c : Int)] 3) = wa at *
          generalize wr.heap.size = cb at *
          clear hGw hBw
          refine (invidx_calls hbox hGa hcn (by omega) hn2).mono ?_
          rintro e w' ⟨rfl, rfl⟩
          cases hp : pivotM n c W with
          | none =>
            have hpz : pivZ n c W = -1 := by unfold pivZ; rw [hp]
            have hR : invM n M = none := inv_of_none (HE.out.symm.trans (by rw [show n - c = (n - c - 1) + 1 by omega]; exact elim_none hp))
            rw [hpz]
            have HRR := Lib.hid hR
            clear hp hpz hR
            go_wp2_with fail
            go_ret2
            rw [HRR.out]
            exact ⟨rfl, hBa⟩
          | some p =>
            obtain ⟨h1, h2, h3⟩ := pivot_some hp
            obtain ⟨q, rfl⟩ : ∃ q, p = c + q := ⟨p - c, by omega⟩
            have hpz : pivZ n c W = (q : Int) := by unfold pivZ; rw [hp]; simp; omega
            rw [hpz]
            have HP := Lib.hid (elim_some (k := n - c - 1) hp)
            rw [show n - c - 1 + 1 = n - c by omega] at HP
            clear hp hpz
            have hqi : (c : Int) + (q : Int) < (n : Int) := by omega
            have hcc := hGa.cell hcn
            have hcq := hGa.cell h2
            have hfc := hGa.frozen c
            have hfq := hGa.frozen (c + q)
            go_wp2_with fail
            have hboxD : wa.drew.cell? ⟨cb, 0, none⟩ = some (.int .i64 (c : Int)) := hbox
            have hccD : wa.drew.cell? ⟨g, c, none⟩ = some (.slice (some ⟨blk c, 0, none⟩) (2 * n) (2 * n)) := hcc
            have hcqD : wa.drew.cell? ⟨g, c + q, none⟩ = some (.slice (some ⟨blk (c + q), 0, none⟩) (2 * n) (2 * n)) := hcq
            have hfcD : wa.drew.frozen? ⟨g, c, none⟩ = false := hfc
            have hfqD : wa.drew.frozen? ⟨g, c + q, none⟩ = false := hfq
            have hGD : Grid wa.drew w.heap.size g blk n (2 * n) W := hGa.below (belowN 1 : Below wa.heap.size wa (wa.drewN 1))
            have hBD : Below w.heap.size w wa.drew := hBa.trans ((belowN 1 : Below wa.heap.size wa (wa.drewN 1)).mono hBa.size)
            have hzD : wa.drew.heap.size = cb + 1 := hza
            refine wp_region_held_drew (S := fun w' => w'.cell? ⟨cb, 0, none⟩ = some (.int .i64 (c : Int))) (by kernel_rfl) hboxD (fun hHeld => ?_)
            generalize wa.drew = WD at *
            clear hbox hcc hcq hfc hfq hGa hBa hza
            have hnq : (0 : Int) ≤ (c : Int) + (q : Int) := by omega
            have htq : ((c : Int) + (q : Int)).toNat = c + q := by omega
            have hwq : IntKind.i64.wrap ((c : Int) + (q : Int)) = (c : Int) + (q : Int) := IntWalk.i64_in _ (by omega)
            refine wpAnyH_take (i := 0) (v := ?_) rfl (by kernel_rfl) (by kernel_rfl) (by kernel_rfl) (fun _ _ _ h => h) (Or.inl ⟨by rfl, ?_⟩) (by assumption) ?_; rotate_left; (intro w hSw; (try dsimp only at hSw); go_simp; (first | done | (with_reducible rfl))); (try simp only [List.getElem_toArray, List.getElem_cons_succ, List.getElem_cons_zero, Act.put, List.setIfInBounds_toArray, List.set_cons_zero, List.set_cons_succ])
            refine wpAnyH_take (i := 1) (v := ?_) rfl (by kernel_rfl) (by kernel_rfl) (by kernel_rfl) (fun _ _ _ h => h) (Or.inl ⟨by rfl, ?_⟩) (by assumption) ?_; rotate_left; (intro w hSw; (try dsimp only at hSw); go_simp; (first | done | (with_reducible rfl))); (try simp only [List.getElem_toArray, List.getElem_cons_succ, List.getElem_cons_zero, Act.put, List.setIfInBounds_toArray, List.set_cons_zero, List.set_cons_succ])
            refine wpAnyH_take (i := 6) (v := ?_) rfl (by kernel_rfl) (by kernel_rfl) (by kernel_rfl) (fun _ _ _ h => h) (Or.inl ⟨by rfl, ?_⟩) (by assumption) ?_; rotate_left; (intro w hSw; (try dsimp only at hSw); go_simp; (first | done | (with_reducible rfl))); (try simp only [List.getElem_toArray, List.getElem_cons_succ, List.getElem_cons_zero, Act.put, List.setIfInBounds_toArray, List.set_cons_zero, List.set_cons_succ])
            refine wpAnyH_take (i := 7) (v := ?_) rfl (by kernel_rfl) (by kernel_rfl) (by kernel_rfl) (fun _ _ _ h => h) (Or.inl ⟨by rfl, ?_⟩) (by assumption) ?_; rotate_left; (intro w hSw; (try dsimp only at hSw); go_simp; (first | done | (with_reducible rfl))); (try simp only [List.getElem_toArray, List.getElem_cons_succ, List.getElem_cons_zero, Act.put, List.setIfInBounds_toArray, List.set_cons_zero, List.set_cons_succ])
            refine wpAnyH_take (i := 8) (v := ?_) rfl (by kernel_rfl) (by kernel_rfl) (by kernel_rfl) (fun _ _ _ h => h) (Or.inl ⟨by rfl, ?_⟩) (by assumption) ?_; rotate_left; (intro w hSw; (try dsimp only at hSw); go_simp; (first | done | (with_reducible rfl))); (try simp only [List.getElem_toArray, List.getElem_cons_succ, List.getElem_cons_zero, Act.put, List.setIfInBounds_toArray, List.set_cons_zero, List.set_cons_succ])
            refine wpAnyH_take (i := 9) (v := ?_) rfl (by kernel_rfl) (by kernel_rfl) (by kernel_rfl) (fun _ _ _ h => h) (Or.inl ⟨by rfl, ?_⟩) (by assumption) ?_; rotate_left; (intro w hSw; (try dsimp only at hSw); go_simp; (first | done | (with_reducible rfl))); (try simp only [List.getElem_toArray, List.getElem_cons_succ, List.getElem_cons_zero, Act.put, List.setIfInBounds_toArray, List.set_cons_zero, List.set_cons_succ])
            refine wpAnyH_take (i := 10) (v := ?_) rfl (by kernel_rfl) (by kernel_rfl) (by kernel_rfl) (fun _ _ _ h => h) (Or.inl ⟨by rfl, ?_⟩) (by assumption) ?_; rotate_left; (intro w hSw; (try dsimp only at hSw); go_simp; (first | done | (with_reducible rfl))); (try simp only [List.getElem_toArray, List.getElem_cons_succ, List.getElem_cons_zero, Act.put, List.setIfInBounds_toArray, List.set_cons_zero, List.set_cons_succ])
            refine wpAnyH_take (i := 12) (v := ?_) rfl (by kernel_rfl) (by kernel_rfl) (by kernel_rfl) (fun _ _ _ h => h) (Or.inl ⟨by rfl, ?_⟩) (by assumption) ?_; rotate_left; (intro w hSw; (try dsimp only at hSw); go_simp; (first | done | (with_reducible rfl))); (try simp only [List.getElem_toArray, List.getElem_cons_succ, List.getElem_cons_zero, Act.put, List.setIfInBounds_toArray, List.set_cons_zero, List.set_cons_succ])
            refine wpAnyH_take (i := 13) (v := ?_) rfl (by kernel_rfl) (by kernel_rfl) (by kernel_rfl) (fun _ _ _ h => h) (Or.inl ⟨by rfl, ?_⟩) (by assumption) ?_; rotate_left; (intro w hSw; (try dsimp only at hSw); go_simp; (first | done | (with_reducible rfl))); (try simp only [List.getElem_toArray, List.getElem_cons_succ, List.getElem_cons_zero, Act.put, List.setIfInBounds_toArray, List.set_cons_zero, List.set_cons_succ])
            refine wpAnyH_take (i := 14) (v := ?_) rfl (by kernel_rfl) (by kernel_rfl) (by kernel_rfl) (fun _ _ _ h => h) (Or.inl ⟨by rfl, ?_⟩) (by assumption) ?_; rotate_left; (intro w hSw; (try dsimp only at hSw); go_simp; (first | done | (with_reducible rfl))); (try simp only [List.getElem_toArray, List.getElem_cons_succ, List.getElem_cons_zero, Act.put, List.setIfInBounds_toArray, List.set_cons_zero, List.set_cons_succ])
            refine wpAnyH_take (i := 2) (v := ?_) rfl (by kernel_rfl) (by kernel_rfl) (by kernel_rfl) (fun _ _ _ h => h) (Or.inl ⟨by rfl, ?_⟩) (by assumption) ?_; rotate_left; (intro w hSw; (try dsimp only at hSw); go_simp; (first | done | (with_reducible rfl))); (try simp only [List.getElem_toArray, List.getElem_cons_succ, List.getElem_cons_zero, Act.put, List.setIfInBounds_toArray, List.set_cons_zero, List.set_cons_succ])
            refine wpAnyH_take (i := 3) (v := ?_) rfl (by kernel_rfl) (by kernel_rfl) (by kernel_rfl) (fun _ _ _ h => h) (Or.inl ⟨by rfl, ?_⟩) (by assumption) ?_; rotate_left; (intro w hSw; (try dsimp only at hSw); go_simp; (first | done | (with_reducible rfl))); (try simp only [List.getElem_toArray, List.getElem_cons_succ, List.getElem_cons_zero, Act.put, List.setIfInBounds_toArray, List.set_cons_zero, List.set_cons_succ])
            refine wpAnyH_take (i := 4) (v := ?_) rfl (by kernel_rfl) (by kernel_rfl) (by kernel_rfl) (fun _ _ _ h => h) (Or.inl ⟨by rfl, ?_⟩) (by assumption) ?_; rotate_left; (intro w hSw; (try dsimp only at hSw); go_simp; (first | done | (with_reducible rfl))); (try simp only [List.getElem_toArray, List.getElem_cons_succ, List.getElem_cons_zero, Act.put, List.setIfInBounds_toArray, List.set_cons_zero, List.set_cons_succ])
            refine wpAnyH_take (i := 5) (v := ?_) rfl (by kernel_rfl) (by kernel_rfl) (by kernel_rfl) (fun _ _ _ h => h) (Or.inl ⟨by rfl, ?_⟩) (by assumption) ?_; rotate_left; (intro w hSw; (try dsimp only at hSw); go_simp; (first | done | (with_reducible rfl))); (try simp only [List.getElem_toArray, List.getElem_cons_succ, List.getElem_cons_zero, Act.put, List.setIfInBounds_toArray, List.set_cons_zero, List.set_cons_succ])
            refine wpAnyH_ready (rs := [11, 15]) (by kernel_rfl) (by simp) ?_
            refine AllReadyH.cons rfl (fun K hK => ?_) (AllReadyH.cons rfl (fun K hK => ?_) AllReadyH.nil)
            · go_simp
              go_wp2_with fail
              refine hK.out _ _ hboxD (fun hHeld => ?_); clear hK K; (try simp only [List.getElem_toArray, List.getElem_cons_succ, List.getElem_cons_zero, Act.put, List.setIfInBounds_toArray, List.set_cons_zero, List.set_cons_succ])
              refine wpAnyH_ready (rs := [15]) (by kernel_rfl) (by simp) ?_; refine AllReadyH.cons rfl (fun K hK => ?_) AllReadyH.nil
              go_simp
              go_wp2_with fail
              refine hK.out _ _ hboxD (fun hHeld => ?_); clear hK K; (try simp only [List.getElem_toArray, List.getElem_cons_succ, List.getElem_cons_zero, Act.put, List.setIfInBounds_toArray, List.set_cons_zero, List.set_cons_succ])
              refine wpAnyH_take (i := 16) (v := ?_) rfl (by kernel_rfl) (by kernel_rfl) (by kernel_rfl) (fun _ _ _ h => h) (Or.inl ⟨by rfl, ?_⟩) (by assumption) ?_; rotate_left; (intro w hSw; (try dsimp only at hSw); go_simp; (first | done | (with_reducible rfl))); (try simp only [List.getElem_toArray, List.getElem_cons_succ, List.getElem_cons_zero, Act.put, List.setIfInBounds_toArray, List.set_cons_zero, List.set_cons_succ])
              refine wpAnyH_ready (rs := [17]) (by kernel_rfl) (by simp) ?_; refine AllReadyH.cons rfl (fun K hK => ?_) AllReadyH.nil
              go_simp
              go_wp2_with fail
              have hS1 := grown_set WD g c (.slice (some ⟨blk (c + q), 0, none⟩) (2 * n) (2 * n))
              have hgcb : g ≠ cb := by intro he; rw [he] at hGD; have := hGD.cell (Nat.lt_of_le_of_lt (Nat.zero_le _) hn); have h2 := hboxD.symm.trans this; cases h2
              have hb1' := hS1.cell hboxD (by simpa using Ne.symm hgcb)
              have hset1 := heap_setCell_same WD g c _ _ (.slice (some ⟨blk (c + q), 0, none⟩) (2 * n) (2 * n)) hGD.top
              have hc2 := cell_of_row _ g (c + q) _ _ (0, 0) hset1
              have hf2 := frozen_of_row _ g (c + q) _ _ hset1
              obtain ⟨u, hu⟩ : ∃ u, ((headsV blk n (2 * n)).toArray.setIfInBounds c (.slice (some ⟨blk (c + q), 0, none⟩) (2 * n) (2 * n)))[c + q]? = some u := ⟨_, Array.getElem?_eq_getElem (by simp; exact h2)⟩
              rw [hu] at hc2
              clear hu hset1
              refine hK.out _ _ hb1' (fun hHeld => ?_); clear hK K; (try simp only [List.getElem_toArray, List.getElem_cons_succ, List.getElem_cons_zero, Act.put, List.setIfInBounds_toArray, List.set_cons_zero, List.set_cons_succ])
              refine wpAnyH_take (i := 18) (v := ?_) rfl (by kernel_rfl) (by kernel_rfl) (by kernel_rfl) (fun _ _ _ h => h) (Or.inl ⟨by rfl, ?_⟩) (by assumption) ?_; rotate_left; (intro w hSw; (try dsimp only at hSw); go_simp; (first | done | (with_reducible rfl))); (try simp only [List.getElem_toArray, List.getElem_cons_succ, List.getElem_cons_zero, Act.put, List.setIfInBounds_toArray, List.set_cons_zero, List.set_cons_succ])
              refine wpAnyH_ready (rs := [19]) (by kernel_rfl) (by simp) ?_; refine AllReadyH.cons rfl (fun K hK => ?_) AllReadyH.nil
              go_simp
              go_wp2_with fail
              have hS2 := grown_set (WD.setCell ⟨g, c, none⟩ (.slice (some ⟨blk (c + q), 0, none⟩) (2 * n) (2 * n))) g (c + q) (.slice (some ⟨blk c, 0, none⟩) (2 * n) (2 * n))
              have hb2' := hS2.cell hb1' (by simpa using Ne.symm hgcb)
              refine hK.out _ _ hb2' (fun hHeld => ?_); clear hK K; (try simp only [List.getElem_toArray, List.getElem_cons_succ, List.getElem_cons_zero, Act.put, List.setIfInBounds_toArray, List.set_cons_zero, List.set_cons_succ])
              refine wpAnyH_done (by kernel_rfl) ?_ _
              clear hwq hnq htq hc2 hf2 hHeld
              have hGs := hGD.swap hcn h2
              rw [swapM_is] at hGs
              have hBs := (hBD.trans (below_of_grown hS1 hBD.size (by intro t ht; cases ht; exact hGD.geG))).trans (below_of_grown hS2 (by simp; exact hBD.size) (by intro t ht; cases ht; exact hGD.geG))
              have hVc : swapM c (c + q) W c c ≠ 0#8 := by simpa [swapM] using h3
              have hzs : ((WD.setCell ⟨g, c, none⟩ (.slice (some ⟨blk (c + q), 0, none⟩) (2 * n) (2 * n))).setCell ⟨g, c + q, none⟩ (.slice (some ⟨blk c, 0, none⟩) (2 * n) (2 * n))).heap.size = cb + 1 := by simp; exact hzD
              clear hS1 hS2 hGD hBD hboxD hccD hcqD hfcD hfqD hb1' hzD h3
              generalize (WD.setCell ⟨g, c, none⟩ (.slice (some ⟨blk (c + q), 0, none⟩) (2 * n) (2 * n))).setCell ⟨g, c + q, none⟩ (.slice (some ⟨blk c, 0, none⟩) (2 * n) (2 * n)) = ws at *
              generalize swapM c (c + q) W = V at *
              generalize (fun k => if k = c + q then blk c else if k = c then blk (c + q) else blk k) = bk at *
              have hbc : ∀ i, i < n → bk i ≠ cb := fun i hi => (hGs.row i hi).ne_box (by omega) hb2'
              have hgc : g ≠ cb := fun he => hGs.ne_box hn hb2' he
              have hcc := hGs.cell hcn
              have hby := (hGs.row c hcn).cell (rowL_get (c := 2 * n) (f := V c) (show c < 2 * n by omega))
              have hFs := FoldAt.below hF hBs
              have hc2n : (c : Int) < 2 * (n : Int) := by omega
              generalize hu : gi (V c c) = u
              have HU := Lib.hid hu
              clear hu
              go_wp2_with fail
              have hbxD : ws.drew.cell? ⟨cb, 0, none⟩ = some (.int .i64 (c : Int)) := hb2'
              have hccD : ws.drew.cell? ⟨g, c, none⟩ = some (.slice (some ⟨bk c, 0, none⟩) (2 * n) (2 * n)) := hcc
              have hbyD : ws.drew.cell? ⟨bk c, c, none⟩ = some (.int .u8 ((V c c).toNat : Int)) := hby
              have hFD : FoldAt ws.drew := hFs
              have hGD : Grid ws.drew w.heap.size g bk n (2 * n) V := hGs.below (belowN 1 : Below ws.heap.size ws (ws.drewN 1))
              have hBD : Below w.heap.size w ws.drew := hBs.trans ((belowN 1 : Below ws.heap.size ws (ws.drewN 1)).mono hBs.size)
              refine wp_region_held_drew (S := fun w' => w'.cell? ⟨cb, 0, none⟩ = some (.int .i64 (c : Int)) ∧ w'.cell? ⟨g, c, none⟩ = some (.slice (some ⟨bk c, 0, none⟩) (2 * n) (2 * n)) ∧ w'.cell? ⟨bk c, c, none⟩ = some (.int .u8 ((V c c).toNat : Int))) (by kernel_rfl) ⟨hbxD, hccD, hbyD⟩ (fun hHeld => ?_)
              generalize ws.drew = WE at *
              clear hcc hby hFs hGs hBs hb2' hzs
              refine wpAnyH_take (i := 0) (v := ?_) rfl (by kernel_rfl) (by kernel_rfl) (by kernel_rfl) (fun _ _ _ h => h) (Or.inl ⟨by rfl, ?_⟩) (by assumption) ?_; rotate_left; (intro w hSw; (try dsimp only at hSw); go_simp; (first | done | (with_reducible rfl))); (try simp only [List.getElem_toArray, List.getElem_cons_succ, List.getElem_cons_zero, Act.put, List.setIfInBounds_toArray, List.set_cons_zero, List.set_cons_succ])
              refine wpAnyH_take (i := 1) (v := ?_) rfl (by kernel_rfl) (by kernel_rfl) (by kernel_rfl) (fun _ _ _ h => h) (Or.inl ⟨by rfl, ?_⟩) (by assumption) ?_; rotate_left; (intro w hSw; (try dsimp only at hSw); go_simp; (first | done | (with_reducible rfl))); (try simp only [List.getElem_toArray, List.getElem_cons_succ, List.getElem_cons_zero, Act.put, List.setIfInBounds_toArray, List.set_cons_zero, List.set_cons_succ])
              refine wpAnyH_take (i := 4) (v := ?_) rfl (by kernel_rfl) (by kernel_rfl) (by kernel_rfl) (fun _ _ _ h => h) (Or.inl ⟨by rfl, ?_⟩) (by assumption) ?_; rotate_left; (intro w hSw; (try dsimp only at hSw); go_simp; (first | done | (with_reducible rfl))); (try simp only [List.getElem_toArray, List.getElem_cons_succ, List.getElem_cons_zero, Act.put, List.setIfInBounds_toArray, List.set_cons_zero, List.set_cons_succ])
              refine wpAnyH_take (i := 2) (v := ?_) rfl (by kernel_rfl) (by kernel_rfl) (by kernel_rfl) (fun _ _ _ h => h) (Or.inl ⟨by rfl, ?_⟩) (by assumption) ?_; rotate_left; (intro w hSw; (try dsimp only at hSw); go_simp; (first | done | (with_reducible rfl))); (try simp only [List.getElem_toArray, List.getElem_cons_succ, List.getElem_cons_zero, Act.put, List.setIfInBounds_toArray, List.set_cons_zero, List.set_cons_succ])
              refine wpAnyH_take (i := 3) (v := ?_) rfl (by kernel_rfl) (by kernel_rfl) (by kernel_rfl) (fun _ _ _ h => h) (Or.inl ⟨by rfl, ?_⟩) (by assumption) ?_; rotate_left; (intro w hSw; (try dsimp only at hSw); go_simp; (first | done | (with_reducible rfl))); (try simp only [List.getElem_toArray, List.getElem_cons_succ, List.getElem_cons_zero, Act.put, List.setIfInBounds_toArray, List.set_cons_zero, List.set_cons_succ])
              refine wpAnyH_take (i := 5) (v := ?_) rfl (by kernel_rfl) (by kernel_rfl) (by kernel_rfl) (fun _ _ _ h => h) (Or.inl ⟨by rfl, ?_⟩) (by assumption) ?_; rotate_left; (intro w hSw; (try dsimp only at hSw); go_simp; (first | done | (with_reducible rfl))); (try simp only [List.getElem_toArray, List.getElem_cons_succ, List.getElem_cons_zero, Act.put, List.setIfInBounds_toArray, List.set_cons_zero, List.set_cons_succ])
              refine wpAnyH_take (i := 6) (v := ?_) rfl (by kernel_rfl) (by kernel_rfl) (by kernel_rfl) (fun _ _ _ h => h) (Or.inl ⟨by rfl, ?_⟩) (by assumption) ?_; rotate_left; (intro w hSw; (try dsimp only at hSw); go_simp; (first | done | (with_reducible rfl))); (try simp only [List.getElem_toArray, List.getElem_cons_succ, List.getElem_cons_zero, Act.put, List.setIfInBounds_toArray, List.set_cons_zero, List.set_cons_succ])
              refine wpAnyH_ready (rs := [7]) (by kernel_rfl) (by simp) ?_; refine AllReadyH.cons rfl (fun K hK => ?_) AllReadyH.nil
              go_simp
              refine (inv_calls (V c c) hFD hVc).mono ?_
              rw [HU.out]
              rintro e w5 ⟨rfl, hb5⟩
              go_wp2_with fail
              have hbx5 := (hb5.cell (p := ⟨cb, 0, none⟩) (block_lt hbxD)).trans hbxD
              refine hK.out _ _ ⟨hbx5, (hb5.cell (p := ⟨g, c, none⟩) (block_lt hccD)).trans hccD, (hb5.cell (p := ⟨bk c, c, none⟩) (block_lt hbyD)).trans hbyD⟩ (fun hHeld => ?_)
              clear hK K
              (try simp only [List.getElem_toArray, List.getElem_cons_succ, List.getElem_cons_zero, Act.put, List.setIfInBounds_toArray, List.set_cons_zero, List.set_cons_succ])
              refine wpAnyH_take (i := 8) (v := ?_) rfl (by kernel_rfl) (by kernel_rfl) (by kernel_rfl) (fun _ _ _ h => h) (Or.inl ⟨by rfl, ?_⟩) (by assumption) ?_; rotate_left; (intro w hSw; (try dsimp only at hSw); go_simp; (first | done | (with_reducible rfl))); (try simp only [List.getElem_toArray, List.getElem_cons_succ, List.getElem_cons_zero, Act.put, List.setIfInBounds_toArray, List.set_cons_zero, List.set_cons_succ])
              refine wpAnyH_take (i := 9) (v := ?_) rfl (by kernel_rfl) (by kernel_rfl) (by kernel_rfl) (fun _ _ _ h => h) (Or.inl ⟨by rfl, ?_⟩) (by assumption) ?_; rotate_left; (intro w hSw; (try dsimp only at hSw); go_simp; (first | done | (with_reducible rfl))); (try simp only [List.getElem_toArray, List.getElem_cons_succ, List.getElem_cons_zero, Act.put, List.setIfInBounds_toArray, List.set_cons_zero, List.set_cons_succ])
              refine wpAnyH_take (i := 10) (v := ?_) rfl (by kernel_rfl) (by kernel_rfl) (by kernel_rfl) (fun _ _ _ h => h) (Or.inl ⟨by rfl, ?_⟩) (by assumption) ?_; rotate_left; (intro w hSw; (try dsimp only at hSw); go_simp; (first | done | (with_reducible rfl))); (try simp only [List.getElem_toArray, List.getElem_cons_succ, List.getElem_cons_zero, Act.put, List.setIfInBounds_toArray, List.set_cons_zero, List.set_cons_succ])
              refine wpAnyH_take (i := 11) (v := ?_) rfl (by kernel_rfl) (by kernel_rfl) (by kernel_rfl) (fun _ _ _ h => h) (Or.inl ⟨by rfl, ?_⟩) (by assumption) ?_; rotate_left; (intro w hSw; (try dsimp only at hSw); go_simp; (first | done | (with_reducible rfl))); (try simp only [List.getElem_toArray, List.getElem_cons_succ, List.getElem_cons_zero, Act.put, List.setIfInBounds_toArray, List.set_cons_zero, List.set_cons_succ])
              refine wpAnyH_take (i := 12) (v := ?_) rfl (by kernel_rfl) (by kernel_rfl) (by kernel_rfl) (fun _ _ _ h => h) (Or.inl ⟨by rfl, ?_⟩) (by assumption) ?_; rotate_left; (intro w hSw; (try dsimp only at hSw); go_simp; (first | done | (with_reducible rfl))); (try simp only [List.getElem_toArray, List.getElem_cons_succ, List.getElem_cons_zero, Act.put, List.setIfInBounds_toArray, List.set_cons_zero, List.set_cons_succ])
              refine wpAnyH_done (by kernel_rfl) ?_ _
              have hG5 := hGD.below hb5
              have hB5 := hBD.trans (hb5.mono hBD.size)
              have hcc5 := hG5.cell hcn
              clear hHeld hbxD hccD hbyD hGD hBD hFD hb5
              go_wp2_with fail
              go_loopw [102] (fun s wr => ∃ k : Nat, k ≤ 2 * n ∧ s = .int .i64 ((k : Nat) : Int) ∧ Grid wr w.heap.size g bk n (2 * n) (scaleAt c V u k) ∧ Below w.heap.size w wr ∧ wr.cell? ⟨cb, 0, none⟩ = some (.int .i64 (c : Int))) (fun s _ => 2 * n - (intOf s).toNat)
              case atStart => exact ⟨0, by omega, rfl, by rw [scaleAt_start]; exact hG5, hB5, hbx5⟩
              case round =>
                obtain ⟨k, hk, rfl, hGr, hBr, hbr⟩ := hrel
                clear hG5 hB5 hbx5 hcc5
                by_cases hkn : k < 2 * n
                · have hkk : (k : Int) < 2 * (n : Int) := by omega
                  have hby := (hGr.row c hcn).cell (rowL_get (c := 2 * n) (f := scaleAt c V u k c) hkn)
                  rw [scaleAt_at] at hby
                  have hccr := hGr.cell hcn
                  have hFr := FoldAt.below hF hBr
                  have HS := Lib.hid (scaleAt_step c V u k)
                  go_wp2_with fail
                  have hbxD : wr.drew.cell? ⟨cb, 0, none⟩ = some (.int .i64 (c : Int)) := hbr
                  have hccD : wr.drew.cell? ⟨g, c, none⟩ = some (.slice (some ⟨bk c, 0, none⟩) (2 * n) (2 * n)) := hccr
                  have hFD : FoldAt wr.drew := hFr
                  have hGD : Grid wr.drew w.heap.size g bk n (2 * n) (scaleAt c V u k) := hGr.below (belowN 1 : Below wr.heap.size wr (wr.drewN 1))
                  have hBD : Below w.heap.size w wr.drew := hBr.trans ((belowN 1 : Below wr.heap.size wr (wr.drewN 1)).mono hBr.size)
                  refine wp_region_held_drew (S := fun w' => w'.cell? ⟨cb, 0, none⟩ = some (.int .i64 (c : Int)) ∧ w'.cell? ⟨g, c, none⟩ = some (.slice (some ⟨bk c, 0, none⟩) (2 * n) (2 * n))) (by kernel_rfl) ⟨hbxD, hccD⟩ (fun hHeld => ?_)
                  generalize wr.drew = WF at *
                  clear hby hccr hFr hGr hBr hbr
                  refine wpAnyH_take (i := 0) (v := ?_) rfl (by kernel_rfl) (by kernel_rfl) (by kernel_rfl) (fun _ _ _ h => h) (Or.inl ⟨by rfl, ?_⟩) (by assumption) ?_; rotate_left; (intro w hSw; (try dsimp only at hSw); go_simp; (first | done | (with_reducible rfl))); (try simp only [List.getElem_toArray, List.getElem_cons_succ, List.getElem_cons_zero, Act.put, List.setIfInBounds_toArray, List.set_cons_zero, List.set_cons_succ])
                  refine wpAnyH_take (i := 1) (v := ?_) rfl (by kernel_rfl) (by kernel_rfl) (by kernel_rfl) (fun _ _ _ h => h) (Or.inl ⟨by rfl, ?_⟩) (by assumption) ?_; rotate_left; (intro w hSw; (try dsimp only at hSw); go_simp; (first | done | (with_reducible rfl))); (try simp only [List.getElem_toArray, List.getElem_cons_succ, List.getElem_cons_zero, Act.put, List.setIfInBounds_toArray, List.set_cons_zero, List.set_cons_succ])
                  refine wpAnyH_take (i := 4) (v := ?_) rfl (by kernel_rfl) (by kernel_rfl) (by kernel_rfl) (fun _ _ _ h => h) (Or.inl ⟨by rfl, ?_⟩) (by assumption) ?_; rotate_left; (intro w hSw; (try dsimp only at hSw); go_simp; (first | done | (with_reducible rfl))); (try simp only [List.getElem_toArray, List.getElem_cons_succ, List.getElem_cons_zero, Act.put, List.setIfInBounds_toArray, List.set_cons_zero, List.set_cons_succ])
                  refine wpAnyH_take (i := 5) (v := ?_) rfl (by kernel_rfl) (by kernel_rfl) (by kernel_rfl) (fun _ _ _ h => h) (Or.inl ⟨by rfl, ?_⟩) (by assumption) ?_; rotate_left; (intro w hSw; (try dsimp only at hSw); go_simp; (first | done | (with_reducible rfl))); (try simp only [List.getElem_toArray, List.getElem_cons_succ, List.getElem_cons_zero, Act.put, List.setIfInBounds_toArray, List.set_cons_zero, List.set_cons_succ])
                  refine wpAnyH_take (i := 6) (v := ?_) rfl (by kernel_rfl) (by kernel_rfl) (by kernel_rfl) (fun _ _ _ h => h) (Or.inl ⟨by rfl, ?_⟩) (by assumption) ?_; rotate_left; (intro w hSw; (try dsimp only at hSw); go_simp; (first | done | (with_reducible rfl))); (try simp only [List.getElem_toArray, List.getElem_cons_succ, List.getElem_cons_zero, Act.put, List.setIfInBounds_toArray, List.set_cons_zero, List.set_cons_succ])
                  refine wpAnyH_take (i := 2) (v := ?_) rfl (by kernel_rfl) (by kernel_rfl) (by kernel_rfl) (fun _ _ _ h => h) (Or.inl ⟨by rfl, ?_⟩) (by assumption) ?_; rotate_left; (intro w hSw; (try dsimp only at hSw); go_simp; (first | done | (with_reducible rfl))); (try simp only [List.getElem_toArray, List.getElem_cons_succ, List.getElem_cons_zero, Act.put, List.setIfInBounds_toArray, List.set_cons_zero, List.set_cons_succ])
                  refine wpAnyH_take (i := 3) (v := ?_) rfl (by kernel_rfl) (by kernel_rfl) (by kernel_rfl) (fun _ _ _ h => h) (Or.inl ⟨by rfl, ?_⟩) (by assumption) ?_; rotate_left; (intro w hSw; (try dsimp only at hSw); go_simp; (first | done | (with_reducible rfl))); (try simp only [List.getElem_toArray, List.getElem_cons_succ, List.getElem_cons_zero, Act.put, List.setIfInBounds_toArray, List.set_cons_zero, List.set_cons_succ])
                  refine wpAnyH_ready (rs := [7]) (by kernel_rfl) (by simp) ?_; refine AllReadyH.cons rfl (fun K hK => ?_) AllReadyH.nil
                  go_simp
                  refine (mul_calls (V c k) u hFD).mono ?_
                  rintro e w6 ⟨rfl, hb6⟩
                  go_wp2_with fail
                  have hbx6 := (hb6.cell (p := ⟨cb, 0, none⟩) (block_lt hbxD)).trans hbxD
                  have hcc6 := (hb6.cell (p := ⟨g, c, none⟩) (block_lt hccD)).trans hccD
                  refine hK.out _ _ ⟨hbx6, hcc6⟩ (fun hHeld => ?_)
                  clear hK K
                  (try simp only [List.getElem_toArray, List.getElem_cons_succ, List.getElem_cons_zero, Act.put, List.setIfInBounds_toArray, List.set_cons_zero, List.set_cons_succ])
                  refine wpAnyH_take (i := 8) (v := ?_) rfl (by kernel_rfl) (by kernel_rfl) (by kernel_rfl) (fun _ _ _ h => h) (Or.inl ⟨by rfl, ?_⟩) (by assumption) ?_; rotate_left; (intro w hSw; (try dsimp only at hSw); go_simp; (first | done | (with_reducible rfl))); (try simp only [List.getElem_toArray, List.getElem_cons_succ, List.getElem_cons_zero, Act.put, List.setIfInBounds_toArray, List.set_cons_zero, List.set_cons_succ])
                  have hG6 := hGD.below hb6
                  have hB6 := hBD.trans (hb6.mono hBD.size)
                  have hcs := (hG6.row c hcn).cell (rowL_get (c := 2 * n) (f := scaleAt c V u k c) hkn)
                  have hfs := (hG6.row c hcn).frozen k
                  have hne1 := hbc c hcn
                  have hne2 := hG6.ne hcn
                  generalize hgm : gm (V c k) u = y
                  have HGM := Lib.hid hgm
                  clear hgm
                  refine wpAnyH_ready (rs := [9]) (by kernel_rfl) (by simp) ?_; refine AllReadyH.cons rfl (fun K hK => ?_) AllReadyH.nil
                  go_simp
                  go_wp2_with fail
                  have hgs := grown_set w6 (bk c) k (bv y)
                  have hbx7 := hgs.cell hbx6 (by simpa using Ne.symm hne1)
                  refine hK.out _ _ ⟨hbx7, hgs.cell hcc6 (by simpa using Ne.symm hne2)⟩ (fun hHeld => ?_)
                  clear hK K
                  (try simp only [List.getElem_toArray, List.getElem_cons_succ, List.getElem_cons_zero, Act.put, List.setIfInBounds_toArray, List.set_cons_zero, List.set_cons_succ])
                  refine wpAnyH_done (by kernel_rfl) ?_ _
                  go_wp2_with fail
                  have hG7 := hG6.put hcn k y
                  rw [← HGM.out, HS.out] at hG7
                  exact ⟨⟨k + 1, by omega, by go_num, by rw [← HGM.out]; exact hG7, hG6.put_below hcn k _ hB6, hbx7⟩, by simp [intOf]; omega⟩
                · have hk2 : k = 2 * n := by omega
                  have hkb : ¬ ((k : Int) < 2 * (n : Int)) := by omega
                  rw [← HU.out, hk2] at hGr
                  clear hk2
                  replace hGr := hGr.congr (clearAt_start c (2 * n) V n)
                  clear hkn hk
                  go_wp2_with fail
                  go_loopw [119] (fun s wr => ∃ r : Nat, r ≤ n ∧ s = .int .i64 ((r : Nat) : Int) ∧ Grid wr w.heap.size g bk n (2 * n) (clearAt c V r) ∧ Below w.heap.size w wr ∧ wr.cell? ⟨cb, 0, none⟩ = some (.int .i64 (c : Int))) (fun s _ => n - (intOf s).toNat)
                  case atStart => exact ⟨0, by omega, rfl, hGr, hBr, hbr⟩
                  case round =>
                    obtain ⟨r, hr, rfl, hGt, hBt, hbt⟩ := hrel
                    clear hGr hBr hbr
                    by_cases hrn : r < n
                    · have hri : (r : Int) < (n : Int) := by omega
                      by_cases hrc : r = c
                      · have hnb : ((r : Int) != (c : Int)) = false := by simp; omega
                        have he : clearAt c V (r + 1) = clearAt c V r := by rw [hrc]; exact (clearAt_skip c V).symm
                        have HSK := Lib.hid he
                        clear he
                        go_wp2_with fail
                        exact ⟨⟨r + 1, by omega, by go_num, by rw [HSK.out]; exact hGt, hBt, hbt⟩, by simp [intOf]; omega⟩
                      · have hnb : ((r : Int) != (c : Int)) = true := by simp; omega
                        have hHrc := Lib.hid hrc
                        have hbkne : bk c ≠ bk r := fun he => hrc (hGt.inj c r hcn hrn he).symm
                        clear hrc
                        have hcr := hGt.cell hrn
                        have hcc := hGt.cell hcn
                        have hby := (hGt.row r hrn).cell (rowL_get (c := 2 * n) (f := clearAt c V r r) (show c < 2 * n by omega))
                        have hFt := FoldAt.below hF hBt
                        have hrg := hGt.ne hrn
                        have hrb := hbc r hrn
                        have hrB := hGt.geB r hrn
                        have h0lt := FoldAt.lt hF
                        have HS := Lib.hid (clearAt_step c V r hHrc.out)
                        go_wp2_with fail
                        have hbxD : wr.drew.cell? ⟨cb, 0, none⟩ = some (.int .i64 (c : Int)) := hbt
                        have hcrD : wr.drew.cell? ⟨g, r, none⟩ = some (.slice (some ⟨bk r, 0, none⟩) (2 * n) (2 * n)) := hcr
                        have hccD : wr.drew.cell? ⟨g, c, none⟩ = some (.slice (some ⟨bk c, 0, none⟩) (2 * n) (2 * n)) := hcc
                        have hbyD : wr.drew.cell? ⟨bk r, c, none⟩ = some (.int .u8 ((clearAt c V r r c).toNat : Int)) := hby
                        have hFD : FoldAt wr.drew := hFt
                        have hGD : Grid wr.drew w.heap.size g bk n (2 * n) (clearAt c V r) := hGt.below (belowN 1 : Below wr.heap.size wr (wr.drewN 1))
                        have hBD : Below w.heap.size w wr.drew := hBt.trans ((belowN 1 : Below wr.heap.size wr (wr.drewN 1)).mono hBt.size)
                        refine wp_region_held_drew (S := fun w' => w'.cell? ⟨cb, 0, none⟩ = some (.int .i64 (c : Int)) ∧ w'.cell? ⟨g, r, none⟩ = some (.slice (some ⟨bk r, 0, none⟩) (2 * n) (2 * n)) ∧ w'.cell? ⟨g, c, none⟩ = some (.slice (some ⟨bk c, 0, none⟩) (2 * n) (2 * n))) (by kernel_rfl) ⟨hbxD, hcrD, hccD⟩ (fun hHeld => ?_)
                        generalize wr.drew = WG at *
                        clear hcr hcc hby hFt hGt hBt hbt
                        refine wpAnyH_take (i := 0) (v := ?_) rfl (by kernel_rfl) (by kernel_rfl) (by kernel_rfl) (fun _ _ _ h => h) (Or.inl ⟨by rfl, ?_⟩) (by assumption) ?_; rotate_left; (intro w hSw; (try dsimp only at hSw); go_simp; (first | done | (with_reducible rfl))); (try simp only [List.getElem_toArray, List.getElem_cons_succ, List.getElem_cons_zero, Act.put, List.setIfInBounds_toArray, List.set_cons_zero, List.set_cons_succ])
                        refine wpAnyH_take (i := 1) (v := ?_) rfl (by kernel_rfl) (by kernel_rfl) (by kernel_rfl) (fun _ _ _ h => h) (Or.inl ⟨by rfl, ?_⟩) (by assumption) ?_; rotate_left; (intro w hSw; (try dsimp only at hSw); go_simp; (first | done | (with_reducible rfl))); (try simp only [List.getElem_toArray, List.getElem_cons_succ, List.getElem_cons_zero, Act.put, List.setIfInBounds_toArray, List.set_cons_zero, List.set_cons_succ])
                        refine wpAnyH_take (i := 4) (v := ?_) rfl (by kernel_rfl) (by kernel_rfl) (by kernel_rfl) (fun _ _ _ h => h) (Or.inl ⟨by rfl, ?_⟩) (by assumption) ?_; rotate_left; (intro w hSw; (try dsimp only at hSw); go_simp; (first | done | (with_reducible rfl))); (try simp only [List.getElem_toArray, List.getElem_cons_succ, List.getElem_cons_zero, Act.put, List.setIfInBounds_toArray, List.set_cons_zero, List.set_cons_succ])
                        refine wpAnyH_take (i := 5) (v := ?_) rfl (by kernel_rfl) (by kernel_rfl) (by kernel_rfl) (fun _ _ _ h => h) (Or.inl ⟨by rfl, ?_⟩) (by assumption) ?_; rotate_left; (intro w hSw; (try dsimp only at hSw); go_simp; (first | done | (with_reducible rfl))); (try simp only [List.getElem_toArray, List.getElem_cons_succ, List.getElem_cons_zero, Act.put, List.setIfInBounds_toArray, List.set_cons_zero, List.set_cons_succ])
                        refine wpAnyH_take (i := 8) (v := ?_) rfl (by kernel_rfl) (by kernel_rfl) (by kernel_rfl) (fun _ _ _ h => h) (Or.inl ⟨by rfl, ?_⟩) (by assumption) ?_; rotate_left; (intro w hSw; (try dsimp only at hSw); go_simp; (first | done | (with_reducible rfl))); (try simp only [List.getElem_toArray, List.getElem_cons_succ, List.getElem_cons_zero, Act.put, List.setIfInBounds_toArray, List.set_cons_zero, List.set_cons_succ])
                        refine wpAnyH_take (i := 9) (v := ?_) rfl (by kernel_rfl) (by kernel_rfl) (by kernel_rfl) (fun _ _ _ h => h) (Or.inl ⟨by rfl, ?_⟩) (by assumption) ?_; rotate_left; (intro w hSw; (try dsimp only at hSw); go_simp; (first | done | (with_reducible rfl))); (try simp only [List.getElem_toArray, List.getElem_cons_succ, List.getElem_cons_zero, Act.put, List.setIfInBounds_toArray, List.set_cons_zero, List.set_cons_succ])
                        refine wpAnyH_take (i := 12) (v := ?_) rfl (by kernel_rfl) (by kernel_rfl) (by kernel_rfl) (fun _ _ _ h => h) (Or.inl ⟨by rfl, ?_⟩) (by assumption) ?_; rotate_left; (intro w hSw; (try dsimp only at hSw); go_simp; (first | done | (with_reducible rfl))); (try simp only [List.getElem_toArray, List.getElem_cons_succ, List.getElem_cons_zero, Act.put, List.setIfInBounds_toArray, List.set_cons_zero, List.set_cons_succ])
                        refine wpAnyH_take (i := 2) (v := ?_) rfl (by kernel_rfl) (by kernel_rfl) (by kernel_rfl) (fun _ _ _ h => h) (Or.inl ⟨by rfl, ?_⟩) (by assumption) ?_; rotate_left; (intro w hSw; (try dsimp only at hSw); go_simp; (first | done | (with_reducible rfl))); (try simp only [List.getElem_toArray, List.getElem_cons_succ, List.getElem_cons_zero, Act.put, List.setIfInBounds_toArray, List.set_cons_zero, List.set_cons_succ])
                        refine wpAnyH_take (i := 3) (v := ?_) rfl (by kernel_rfl) (by kernel_rfl) (by kernel_rfl) (fun _ _ _ h => h) (Or.inl ⟨by rfl, ?_⟩) (by assumption) ?_; rotate_left; (intro w hSw; (try dsimp only at hSw); go_simp; (first | done | (with_reducible rfl))); (try simp only [List.getElem_toArray, List.getElem_cons_succ, List.getElem_cons_zero, Act.put, List.setIfInBounds_toArray, List.set_cons_zero, List.set_cons_succ])
                        refine wpAnyH_take (i := 6) (v := ?_) rfl (by kernel_rfl) (by kernel_rfl) (by kernel_rfl) (fun _ _ _ h => h) (Or.inl ⟨by rfl, ?_⟩) (by assumption) ?_; rotate_left; (intro w hSw; (try dsimp only at hSw); go_simp; (first | done | (with_reducible rfl))); (try simp only [List.getElem_toArray, List.getElem_cons_succ, List.getElem_cons_zero, Act.put, List.setIfInBounds_toArray, List.set_cons_zero, List.set_cons_succ])
                        refine wpAnyH_take (i := 7) (v := ?_) rfl (by kernel_rfl) (by kernel_rfl) (by kernel_rfl) (fun _ _ _ h => h) (Or.inl ⟨by rfl, ?_⟩) (by assumption) ?_; rotate_left; (intro w hSw; (try dsimp only at hSw); go_simp; (first | done | (with_reducible rfl))); (try simp only [List.getElem_toArray, List.getElem_cons_succ, List.getElem_cons_zero, Act.put, List.setIfInBounds_toArray, List.set_cons_zero, List.set_cons_succ])
                        refine wpAnyH_take (i := 10) (v := ?_) rfl (by kernel_rfl) (by kernel_rfl) (by kernel_rfl) (fun _ _ _ h => h) (Or.inl ⟨by rfl, ?_⟩) (by assumption) ?_; rotate_left; (intro w hSw; (try dsimp only at hSw); go_simp; (first | done | (with_reducible rfl))); (try simp only [List.getElem_toArray, List.getElem_cons_succ, List.getElem_cons_zero, Act.put, List.setIfInBounds_toArray, List.set_cons_zero, List.set_cons_succ])
                        refine wpAnyH_take (i := 11) (v := ?_) rfl (by kernel_rfl) (by kernel_rfl) (by kernel_rfl) (fun _ _ _ h => h) (Or.inl ⟨by rfl, ?_⟩) (by assumption) ?_; rotate_left; (intro w hSw; (try dsimp only at hSw); go_simp; (first | done | (with_reducible rfl))); (try simp only [List.getElem_toArray, List.getElem_cons_succ, List.getElem_cons_zero, Act.put, List.setIfInBounds_toArray, List.set_cons_zero, List.set_cons_succ])
                        refine wpAnyH_take (i := 13) (v := ?_) rfl (by kernel_rfl) (by kernel_rfl) (by kernel_rfl) (fun _ _ _ h => h) (Or.inl ⟨by rfl, ?_⟩) (by assumption) ?_; rotate_left; (intro w hSw; (try dsimp only at hSw); go_simp; (first | done | (with_reducible rfl))); (try simp only [List.getElem_toArray, List.getElem_cons_succ, List.getElem_cons_zero, Act.put, List.setIfInBounds_toArray, List.set_cons_zero, List.set_cons_succ])
                        refine wpAnyH_ready (rs := [14]) (by kernel_rfl) (by simp) ?_; refine AllReadyH.cons rfl (fun K hK => ?_) AllReadyH.nil
                        go_simp
                        go_wp2_with fail
                        refine hK.out _ _ ⟨hbxD, hcrD, hccD⟩ (fun hHeld => ?_)
                        clear hK K
                        (try simp only [List.getElem_toArray, List.getElem_cons_succ, List.getElem_cons_zero, Act.put, List.setIfInBounds_toArray, List.set_cons_zero, List.set_cons_succ])
                        refine wpAnyH_ready (rs := [15]) (by kernel_rfl) (by simp) ?_; refine AllReadyH.cons rfl (fun K hK => ?_) AllReadyH.nil
                        go_simp
                        refine (gather_calls (hGD.row r hrn) (hGD.row c hcn).at hFD (by omega) (fun b off he => by cases he; exact hbkne) (by omega)).mono ?_
                        rintro e w8 ⟨rfl, hg8, hr8⟩
                        go_wp2_with fail
                        have hbx8 := hg8.cell hbxD (by simpa using Ne.symm hrb)
                        refine hK.out _ _ ⟨hbx8, hg8.cell hcrD (by simpa using Ne.symm hrg), hg8.cell hccD (by simpa using Ne.symm hrg)⟩ (fun hHeld => ?_)
                        clear hK K
                        (try simp only [List.getElem_toArray, List.getElem_cons_succ, List.getElem_cons_zero, Act.put, List.setIfInBounds_toArray, List.set_cons_zero, List.set_cons_succ])
                        refine wpAnyH_done (by kernel_rfl) ?_ _
                        go_wp2_with fail
                        have hG8 := hGD.setRow hrn hg8 hr8
                        exact ⟨⟨r + 1, by omega, by go_num, by rw [← HS.out]; exact hG8, hBD.trans (below_of_grown hg8 hBD.size (by intro t ht; cases ht; omega)), hbx8⟩, by simp [intOf]; omega⟩
                    · obtain rfl : n = r := by omega
                      go_wp2_with fail
                      exact ⟨⟨c + 1, bk, clearM c V, by omega, by go_num, hGt.congr (clearAt_end c V n (2 * n)), hBt, by have := HP.out.symm.trans HE.out; rwa [show n - c - 1 = n - (c + 1) by omega] at this⟩, by simp [intOf]; omega⟩
            · go_simp
              go_wp2_with fail
              refine hK.out _ _ hboxD (fun hHeld => ?_); clear hK K; (try simp only [List.getElem_toArray, List.getElem_cons_succ, List.getElem_cons_zero, Act.put, List.setIfInBounds_toArray, List.set_cons_zero, List.set_cons_succ])
              refine wpAnyH_ready (rs := [11]) (by kernel_rfl) (by simp) ?_; refine AllReadyH.cons rfl (fun K hK => ?_) AllReadyH.nil
              go_simp
              go_wp2_with fail
              refine hK.out _ _ hboxD (fun hHeld => ?_); clear hK K; (try simp only [List.getElem_toArray, List.getElem_cons_succ, List.getElem_cons_zero, Act.put, List.setIfInBounds_toArray, List.set_cons_zero, List.set_cons_succ])
              refine wpAnyH_take (i := 16) (v := ?_) rfl (by kernel_rfl) (by kernel_rfl) (by kernel_rfl) (fun _ _ _ h => h) (Or.inl ⟨by rfl, ?_⟩) (by assumption) ?_; rotate_left; (intro w hSw; (try dsimp only at hSw); go_simp; (first | done | (with_reducible rfl))); (try simp only [List.getElem_toArray, List.getElem_cons_succ, List.getElem_cons_zero, Act.put, List.setIfInBounds_toArray, List.set_cons_zero, List.set_cons_succ])
              refine wpAnyH_ready (rs := [17]) (by kernel_rfl) (by simp) ?_; refine AllReadyH.cons rfl (fun K hK => ?_) AllReadyH.nil
              go_simp
              go_wp2_with fail
              have hS1 := grown_set WD g c (.slice (some ⟨blk (c + q), 0, none⟩) (2 * n) (2 * n))
              have hgcb : g ≠ cb := by intro he; rw [he] at hGD; have := hGD.cell (Nat.lt_of_le_of_lt (Nat.zero_le _) hn); have h2 := hboxD.symm.trans this; cases h2
              have hb1' := hS1.cell hboxD (by simpa using Ne.symm hgcb)
              have hset1 := heap_setCell_same WD g c _ _ (.slice (some ⟨blk (c + q), 0, none⟩) (2 * n) (2 * n)) hGD.top
              have hc2 := cell_of_row _ g (c + q) _ _ (0, 0) hset1
              have hf2 := frozen_of_row _ g (c + q) _ _ hset1
              obtain ⟨u, hu⟩ : ∃ u, ((headsV blk n (2 * n)).toArray.setIfInBounds c (.slice (some ⟨blk (c + q), 0, none⟩) (2 * n) (2 * n)))[c + q]? = some u := ⟨_, Array.getElem?_eq_getElem (by simp; exact h2)⟩
              rw [hu] at hc2
              clear hu hset1
              refine hK.out _ _ hb1' (fun hHeld => ?_); clear hK K; (try simp only [List.getElem_toArray, List.getElem_cons_succ, List.getElem_cons_zero, Act.put, List.setIfInBounds_toArray, List.set_cons_zero, List.set_cons_succ])
              refine wpAnyH_take (i := 18) (v := ?_) rfl (by kernel_rfl) (by kernel_rfl) (by kernel_rfl) (fun _ _ _ h => h) (Or.inl ⟨by rfl, ?_⟩) (by assumption) ?_; rotate_left; (intro w hSw; (try dsimp only at hSw); go_simp; (first | done | (with_reducible rfl))); (try simp only [List.getElem_toArray, List.getElem_cons_succ, List.getElem_cons_zero, Act.put, List.setIfInBounds_toArray, List.set_cons_zero, List.set_cons_succ])
              refine wpAnyH_ready (rs := [19]) (by kernel_rfl) (by simp) ?_; refine AllReadyH.cons rfl (fun K hK => ?_) AllReadyH.nil
              go_simp
              go_wp2_with fail
              have hS2 := grown_set (WD.setCell ⟨g, c, none⟩ (.slice (some ⟨blk (c + q), 0, none⟩) (2 * n) (2 * n))) g (c + q) (.slice (some ⟨blk c, 0, none⟩) (2 * n) (2 * n))
              have hb2' := hS2.cell hb1' (by simpa using Ne.symm hgcb)
              refine hK.out _ _ hb2' (fun hHeld => ?_); clear hK K; (try simp only [List.getElem_toArray, List.getElem_cons_succ, List.getElem_cons_zero, Act.put, List.setIfInBounds_toArray, List.set_cons_zero, List.set_cons_succ])
              refine wpAnyH_done (by kernel_rfl) ?_ _
              clear hwq hnq htq hc2 hf2 hHeld
              have hGs := hGD.swap hcn h2
              rw [swapM_is] at hGs
              have hBs := (hBD.trans (below_of_grown hS1 hBD.size (by intro t ht; cases ht; exact hGD.geG))).trans (below_of_grown hS2 (by simp; exact hBD.size) (by intro t ht; cases ht; exact hGD.geG))
              have hVc : swapM c (c + q) W c c ≠ 0#8 := by simpa [swapM] using h3
              have hzs : ((WD.setCell ⟨g, c, none⟩ (.slice (some ⟨blk (c + q), 0, none⟩) (2 * n) (2 * n))).setCell ⟨g, c + q, none⟩ (.slice (some ⟨blk c, 0, none⟩) (2 * n) (2 * n))).heap.size = cb + 1 := by simp; exact hzD
              clear hS1 hS2 hGD hBD hboxD hccD hcqD hfcD hfqD hb1' hzD h3
              generalize (WD.setCell ⟨g, c, none⟩ (.slice (some ⟨blk (c + q), 0, none⟩) (2 * n) (2 * n))).setCell ⟨g, c + q, none⟩ (.slice (some ⟨blk c, 0, none⟩) (2 * n) (2 * n)) = ws at *
              generalize swapM c (c + q) W = V at *
              generalize (fun k => if k = c + q then blk c else if k = c then blk (c + q) else blk k) = bk at *
              have hbc : ∀ i, i < n → bk i ≠ cb := fun i hi => (hGs.row i hi).ne_box (by omega) hb2'
              have hgc : g ≠ cb := fun he => hGs.ne_box hn hb2' he
              have hcc := hGs.cell hcn
              have hby := (hGs.row c hcn).cell (rowL_get (c := 2 * n) (f := V c) (show c < 2 * n by omega))
              have hFs := FoldAt.below hF hBs
              have hc2n : (c : Int) < 2 * (n : Int) := by omega
              generalize hu : gi (V c c) = u
              have HU := Lib.hid hu
              clear hu
              go_wp2_with fail
              have hbxD : ws.drew.cell? ⟨cb, 0, none⟩ = some (.int .i64 (c : Int)) := hb2'
              have hccD : ws.drew.cell? ⟨g, c, none⟩ = some (.slice (some ⟨bk c, 0, none⟩) (2 * n) (2 * n)) := hcc
              have hbyD : ws.drew.cell? ⟨bk c, c, none⟩ = some (.int .u8 ((V c c).toNat : Int)) := hby
              have hFD : FoldAt ws.drew := hFs
              have hGD : Grid ws.drew w.heap.size g bk n (2 * n) V := hGs.below (belowN 1 : Below ws.heap.size ws (ws.drewN 1))
              have hBD : Below w.heap.size w ws.drew := hBs.trans ((belowN 1 : Below ws.heap.size ws (ws.drewN 1)).mono hBs.size)
              refine wp_region_held_drew (S := fun w' => w'.cell? ⟨cb, 0, none⟩ = some (.int .i64 (c : Int)) ∧ w'.cell? ⟨g, c, none⟩ = some (.slice (some ⟨bk c, 0, none⟩) (2 * n) (2 * n)) ∧ w'.cell? ⟨bk c, c, none⟩ = some (.int .u8 ((V c c).toNat : Int))) (by kernel_rfl) ⟨hbxD, hccD, hbyD⟩ (fun hHeld => ?_)
              generalize ws.drew = WE at *
              clear hcc hby hFs hGs hBs hb2' hzs
              refine wpAnyH_take (i := 0) (v := ?_) rfl (by kernel_rfl) (by kernel_rfl) (by kernel_rfl) (fun _ _ _ h => h) (Or.inl ⟨by rfl, ?_⟩) (by assumption) ?_; rotate_left; (intro w hSw; (try dsimp only at hSw); go_simp; (first | done | (with_reducible rfl))); (try simp only [List.getElem_toArray, List.getElem_cons_succ, List.getElem_cons_zero, Act.put, List.setIfInBounds_toArray, List.set_cons_zero, List.set_cons_succ])
              refine wpAnyH_take (i := 1) (v := ?_) rfl (by kernel_rfl) (by kernel_rfl) (by kernel_rfl) (fun _ _ _ h => h) (Or.inl ⟨by rfl, ?_⟩) (by assumption) ?_; rotate_left; (intro w hSw; (try dsimp only at hSw); go_simp; (first | done | (with_reducible rfl))); (try simp only [List.getElem_toArray, List.getElem_cons_succ, List.getElem_cons_zero, Act.put, List.setIfInBounds_toArray, List.set_cons_zero, List.set_cons_succ])
              refine wpAnyH_take (i := 4) (v := ?_) rfl (by kernel_rfl) (by kernel_rfl) (by kernel_rfl) (fun _ _ _ h => h) (Or.inl ⟨by rfl, ?_⟩) (by assumption) ?_; rotate_left; (intro w hSw; (try dsimp only at hSw); go_simp; (first | done | (with_reducible rfl))); (try simp only [List.getElem_toArray, List.getElem_cons_succ, List.getElem_cons_zero, Act.put, List.setIfInBounds_toArray, List.set_cons_zero, List.set_cons_succ])
              refine wpAnyH_take (i := 2) (v := ?_) rfl (by kernel_rfl) (by kernel_rfl) (by kernel_rfl) (fun _ _ _ h => h) (Or.inl ⟨by rfl, ?_⟩) (by assumption) ?_; rotate_left; (intro w hSw; (try dsimp only at hSw); go_simp; (first | done | (with_reducible rfl))); (try simp only [List.getElem_toArray, List.getElem_cons_succ, List.getElem_cons_zero, Act.put, List.setIfInBounds_toArray, List.set_cons_zero, List.set_cons_succ])
              refine wpAnyH_take (i := 3) (v := ?_) rfl (by kernel_rfl) (by kernel_rfl) (by kernel_rfl) (fun _ _ _ h => h) (Or.inl ⟨by rfl, ?_⟩) (by assumption) ?_; rotate_left; (intro w hSw; (try dsimp only at hSw); go_simp; (first | done | (with_reducible rfl))); (try simp only [List.getElem_toArray, List.getElem_cons_succ, List.getElem_cons_zero, Act.put, List.setIfInBounds_toArray, List.set_cons_zero, List.set_cons_succ])
              refine wpAnyH_take (i := 5) (v := ?_) rfl (by kernel_rfl) (by kernel_rfl) (by kernel_rfl) (fun _ _ _ h => h) (Or.inl ⟨by rfl, ?_⟩) (by assumption) ?_; rotate_left; (intro w hSw; (try dsimp only at hSw); go_simp; (first | done | (with_reducible rfl))); (try simp only [List.getElem_toArray, List.getElem_cons_succ, List.getElem_cons_zero, Act.put, List.setIfInBounds_toArray, List.set_cons_zero, List.set_cons_succ])
              refine wpAnyH_take (i := 6) (v := ?_) rfl (by kernel_rfl) (by kernel_rfl) (by kernel_rfl) (fun _ _ _ h => h) (Or.inl ⟨by rfl, ?_⟩) (by assumption) ?_; rotate_left; (intro w hSw; (try dsimp only at hSw); go_simp; (first | done | (with_reducible rfl))); (try simp only [List.getElem_toArray, List.getElem_cons_succ, List.getElem_cons_zero, Act.put, List.setIfInBounds_toArray, List.set_cons_zero, List.set_cons_succ])
              refine wpAnyH_ready (rs := [7]) (by kernel_rfl) (by simp) ?_; refine AllReadyH.cons rfl (fun K hK => ?_) AllReadyH.nil
              go_simp
              refine (inv_calls (V c c) hFD hVc).mono ?_
              rw [HU.out]
              rintro e w5 ⟨rfl, hb5⟩
              go_wp2_with fail
              have hbx5 := (hb5.cell (p := ⟨cb, 0, none⟩) (block_lt hbxD)).trans hbxD
              refine hK.out _ _ ⟨hbx5, (hb5.cell (p := ⟨g, c, none⟩) (block_lt hccD)).trans hccD, (hb5.cell (p := ⟨bk c, c, none⟩) (block_lt hbyD)).trans hbyD⟩ (fun hHeld => ?_)
              clear hK K
              (try simp only [List.getElem_toArray, List.getElem_cons_succ, List.getElem_cons_zero, Act.put, List.setIfInBounds_toArray, List.set_cons_zero, List.set_cons_succ])
              refine wpAnyH_take (i := 8) (v := ?_) rfl (by kernel_rfl) (by kernel_rfl) (by kernel_rfl) (fun _ _ _ h => h) (Or.inl ⟨by rfl, ?_⟩) (by assumption) ?_; rotate_left; (intro w hSw; (try dsimp only at hSw); go_simp; (first | done | (with_reducible rfl))); (try simp only [List.getElem_toArray, List.getElem_cons_succ, List.getElem_cons_zero, Act.put, List.setIfInBounds_toArray, List.set_cons_zero, List.set_cons_succ])
              refine wpAnyH_take (i := 9) (v := ?_) rfl (by kernel_rfl) (by kernel_rfl) (by kernel_rfl) (fun _ _ _ h => h) (Or.inl ⟨by rfl, ?_⟩) (by assumption) ?_; rotate_left; (intro w hSw; (try dsimp only at hSw); go_simp; (first | done | (with_reducible rfl))); (try simp only [List.getElem_toArray, List.getElem_cons_succ, List.getElem_cons_zero, Act.put, List.setIfInBounds_toArray, List.set_cons_zero, List.set_cons_succ])
              refine wpAnyH_take (i := 10) (v := ?_) rfl (by kernel_rfl) (by kernel_rfl) (by kernel_rfl) (fun _ _ _ h => h) (Or.inl ⟨by rfl, ?_⟩) (by assumption) ?_; rotate_left; (intro w hSw; (try dsimp only at hSw); go_simp; (first | done | (with_reducible rfl))); (try simp only [List.getElem_toArray, List.getElem_cons_succ, List.getElem_cons_zero, Act.put, List.setIfInBounds_toArray, List.set_cons_zero, List.set_cons_succ])
              refine wpAnyH_take (i := 11) (v := ?_) rfl (by kernel_rfl) (by kernel_rfl) (by kernel_rfl) (fun _ _ _ h => h) (Or.inl ⟨by rfl, ?_⟩) (by assumption) ?_; rotate_left; (intro w hSw; (try dsimp only at hSw); go_simp; (first | done | (with_reducible rfl))); (try simp only [List.getElem_toArray, List.getElem_cons_succ, List.getElem_cons_zero, Act.put, List.setIfInBounds_toArray, List.set_cons_zero, List.set_cons_succ])
              refine wpAnyH_take (i := 12) (v := ?_) rfl (by kernel_rfl) (by kernel_rfl) (by kernel_rfl) (fun _ _ _ h => h) (Or.inl ⟨by rfl, ?_⟩) (by assumption) ?_; rotate_left; (intro w hSw; (try dsimp only at hSw); go_simp; (first | done | (with_reducible rfl))); (try simp only [List.getElem_toArray, List.getElem_cons_succ, List.getElem_cons_zero, Act.put, List.setIfInBounds_toArray, List.set_cons_zero, List.set_cons_succ])
              refine wpAnyH_done (by kernel_rfl) ?_ _
              have hG5 := hGD.below hb5
              have hB5 := hBD.trans (hb5.mono hBD.size)
              have hcc5 := hG5.cell hcn
              clear hHeld hbxD hccD hbyD hGD hBD hFD hb5
              go_wp2_with fail
              go_loopw [102] (fun s wr => ∃ k : Nat, k ≤ 2 * n ∧ s = .int .i64 ((k : Nat) : Int) ∧ Grid wr w.heap.size g bk n (2 * n) (scaleAt c V u k) ∧ Below w.heap.size w wr ∧ wr.cell? ⟨cb, 0, none⟩ = some (.int .i64 (c : Int))) (fun s _ => 2 * n - (intOf s).toNat)
              case atStart => exact ⟨0, by omega, rfl, by rw [scaleAt_start]; exact hG5, hB5, hbx5⟩
              case round =>
                obtain ⟨k, hk, rfl, hGr, hBr, hbr⟩ := hrel
                clear hG5 hB5 hbx5 hcc5
                by_cases hkn : k < 2 * n
                · have hkk : (k : Int) < 2 * (n : Int) := by omega
                  have hby := (hGr.row c hcn).cell (rowL_get (c := 2 * n) (f := scaleAt c V u k c) hkn)
                  rw [scaleAt_at] at hby
                  have hccr := hGr.cell hcn
                  have hFr := FoldAt.below hF hBr
                  have HS := Lib.hid (scaleAt_step c V u k)
                  go_wp2_with fail
                  have hbxD : wr.drew.cell? ⟨cb, 0, none⟩ = some (.int .i64 (c : Int)) := hbr
                  have hccD : wr.drew.cell? ⟨g, c, none⟩ = some (.slice (some ⟨bk c, 0, none⟩) (2 * n) (2 * n)) := hccr
                  have hFD : FoldAt wr.drew := hFr
                  have hGD : Grid wr.drew w.heap.size g bk n (2 * n) (scaleAt c V u k) := hGr.below (belowN 1 : Below wr.heap.size wr (wr.drewN 1))
                  have hBD : Below w.heap.size w wr.drew := hBr.trans ((belowN 1 : Below wr.heap.size wr (wr.drewN 1)).mono hBr.size)
                  refine wp_region_held_drew (S := fun w' => w'.cell? ⟨cb, 0, none⟩ = some (.int .i64 (c : Int)) ∧ w'.cell? ⟨g, c, none⟩ = some (.slice (some ⟨bk c, 0, none⟩) (2 * n) (2 * n))) (by kernel_rfl) ⟨hbxD, hccD⟩ (fun hHeld => ?_)
                  generalize wr.drew = WF at *
                  clear hby hccr hFr hGr hBr hbr
                  refine wpAnyH_take (i := 0) (v := ?_) rfl (by kernel_rfl) (by kernel_rfl) (by kernel_rfl) (fun _ _ _ h => h) (Or.inl ⟨by rfl, ?_⟩) (by assumption) ?_; rotate_left; (intro w hSw; (try dsimp only at hSw); go_simp; (first | done | (with_reducible rfl))); (try simp only [List.getElem_toArray, List.getElem_cons_succ, List.getElem_cons_zero, Act.put, List.setIfInBounds_toArray, List.set_cons_zero, List.set_cons_succ])
                  refine wpAnyH_take (i := 1) (v := ?_) rfl (by kernel_rfl) (by kernel_rfl) (by kernel_rfl) (fun _ _ _ h => h) (Or.inl ⟨by rfl, ?_⟩) (by assumption) ?_; rotate_left; (intro w hSw; (try dsimp only at hSw); go_simp; (first | done | (with_reducible rfl))); (try simp only [List.getElem_toArray, List.getElem_cons_succ, List.getElem_cons_zero, Act.put, List.setIfInBounds_toArray, List.set_cons_zero, List.set_cons_succ])
                  refine wpAnyH_take (i := 4) (v := ?_) rfl (by kernel_rfl) (by kernel_rfl) (by kernel_rfl) (fun _ _ _ h => h) (Or.inl ⟨by rfl, ?_⟩) (by assumption) ?_; rotate_left; (intro w hSw; (try dsimp only at hSw); go_simp; (first | done | (with_reducible rfl))); (try simp only [List.getElem_toArray, List.getElem_cons_succ, List.getElem_cons_zero, Act.put, List.setIfInBounds_toArray, List.set_cons_zero, List.set_cons_succ])
                  refine wpAnyH_take (i := 5) (v := ?_) rfl (by kernel_rfl) (by kernel_rfl) (by kernel_rfl) (fun _ _ _ h => h) (Or.inl ⟨by rfl, ?_⟩) (by assumption) ?_; rotate_left; (intro w hSw; (try dsimp only at hSw); go_simp; (first | done | (with_reducible rfl))); (try simp only [List.getElem_toArray, List.getElem_cons_succ, List.getElem_cons_zero, Act.put, List.setIfInBounds_toArray, List.set_cons_zero, List.set_cons_succ])
                  refine wpAnyH_take (i := 6) (v := ?_) rfl (by kernel_rfl) (by kernel_rfl) (by kernel_rfl) (fun _ _ _ h => h) (Or.inl ⟨by rfl, ?_⟩) (by assumption) ?_; rotate_left; (intro w hSw; (try dsimp only at hSw); go_simp; (first | done | (with_reducible rfl))); (try simp only [List.getElem_toArray, List.getElem_cons_succ, List.getElem_cons_zero, Act.put, List.setIfInBounds_toArray, List.set_cons_zero, List.set_cons_succ])
                  refine wpAnyH_take (i := 2) (v := ?_) rfl (by kernel_rfl) (by kernel_rfl) (by kernel_rfl) (fun _ _ _ h => h) (Or.inl ⟨by rfl, ?_⟩) (by assumption) ?_; rotate_left; (intro w hSw; (try dsimp only at hSw); go_simp; (first | done | (with_reducible rfl))); (try simp only [List.getElem_toArray, List.getElem_cons_succ, List.getElem_cons_zero, Act.put, List.setIfInBounds_toArray, List.set_cons_zero, List.set_cons_succ])
                  refine wpAnyH_take (i := 3) (v := ?_) rfl (by kernel_rfl) (by kernel_rfl) (by kernel_rfl) (fun _ _ _ h => h) (Or.inl ⟨by rfl, ?_⟩) (by assumption) ?_; rotate_left; (intro w hSw; (try dsimp only at hSw); go_simp; (first | done | (with_reducible rfl))); (try simp only [List.getElem_toArray, List.getElem_cons_succ, List.getElem_cons_zero, Act.put, List.setIfInBounds_toArray, List.set_cons_zero, List.set_cons_succ])
                  refine wpAnyH_ready (rs := [7]) (by kernel_rfl) (by simp) ?_; refine AllReadyH.cons rfl (fun K hK => ?_) AllReadyH.nil
                  go_simp
                  refine (mul_calls (V c k) u hFD).mono ?_
                  rintro e w6 ⟨rfl, hb6⟩
                  go_wp2_with fail
                  have hbx6 := (hb6.cell (p := ⟨cb, 0, none⟩) (block_lt hbxD)).trans hbxD
                  have hcc6 := (hb6.cell (p := ⟨g, c, none⟩) (block_lt hccD)).trans hccD
                  refine hK.out _ _ ⟨hbx6, hcc6⟩ (fun hHeld => ?_)
                  clear hK K
                  (try simp only [List.getElem_toArray, List.getElem_cons_succ, List.getElem_cons_zero, Act.put, List.setIfInBounds_toArray, List.set_cons_zero, List.set_cons_succ])
                  refine wpAnyH_take (i := 8) (v := ?_) rfl (by kernel_rfl) (by kernel_rfl) (by kernel_rfl) (fun _ _ _ h => h) (Or.inl ⟨by rfl, ?_⟩) (by assumption) ?_; rotate_left; (intro w hSw; (try dsimp only at hSw); go_simp; (first | done | (with_reducible rfl))); (try simp only [List.getElem_toArray, List.getElem_cons_succ, List.getElem_cons_zero, Act.put, List.setIfInBounds_toArray, List.set_cons_zero, List.set_cons_succ])
                  have hG6 := hGD.below hb6
                  have hB6 := hBD.trans (hb6.mono hBD.size)
                  have hcs := (hG6.row c hcn).cell (rowL_get (c := 2 * n) (f := scaleAt c V u k c) hkn)
                  have hfs := (hG6.row c hcn).frozen k
                  have hne1 := hbc c hcn
                  have hne2 := hG6.ne hcn
                  generalize hgm : gm (V c k) u = y
                  have HGM := Lib.hid hgm
                  clear hgm
                  refine wpAnyH_ready (rs := [9]) (by kernel_rfl) (by simp) ?_; refine AllReadyH.cons rfl (fun K hK => ?_) AllReadyH.nil
                  go_simp
                  go_wp2_with fail
                  have hgs := grown_set w6 (bk c) k (bv y)
                  have hbx7 := hgs.cell hbx6 (by simpa using Ne.symm hne1)
                  refine hK.out _ _ ⟨hbx7, hgs.cell hcc6 (by simpa using Ne.symm hne2)⟩ (fun hHeld => ?_)
                  clear hK K
                  (try simp only [List.getElem_toArray, List.getElem_cons_succ, List.getElem_cons_zero, Act.put, List.setIfInBounds_toArray, List.set_cons_zero, List.set_cons_succ])
                  refine wpAnyH_done (by kernel_rfl) ?_ _
                  go_wp2_with fail
                  have hG7 := hG6.put hcn k y
                  rw [← HGM.out, HS.out] at hG7
                  exact ⟨⟨k + 1, by omega, by go_num, by rw [← HGM.out]; exact hG7, hG6.put_below hcn k _ hB6, hbx7⟩, by simp [intOf]; omega⟩
                · have hk2 : k = 2 * n := by omega
                  have hkb : ¬ ((k : Int) < 2 * (n : Int)) := by omega
                  rw [← HU.out, hk2] at hGr
                  clear hk2
                  replace hGr := hGr.congr (clearAt_start c (2 * n) V n)
                  clear hkn hk
                  go_wp2_with fail
                  go_loopw [119] (fun s wr => ∃ r : Nat, r ≤ n ∧ s = .int .i64 ((r : Nat) : Int) ∧ Grid wr w.heap.size g bk n (2 * n) (clearAt c V r) ∧ Below w.heap.size w wr ∧ wr.cell? ⟨cb, 0, none⟩ = some (.int .i64 (c : Int))) (fun s _ => n - (intOf s).toNat)
                  case atStart => exact ⟨0, by omega, rfl, hGr, hBr, hbr⟩
                  case round =>
                    obtain ⟨r, hr, rfl, hGt, hBt, hbt⟩ := hrel
                    clear hGr hBr hbr
                    by_cases hrn : r < n
                    · have hri : (r : Int) < (n : Int) := by omega
                      by_cases hrc : r = c
                      · have hnb : ((r : Int) != (c : Int)) = false := by simp; omega
                        have he : clearAt c V (r + 1) = clearAt c V r := by rw [hrc]; exact (clearAt_skip c V).symm
                        have HSK := Lib.hid he
                        clear he
                        go_wp2_with fail
                        exact ⟨⟨r + 1, by omega, by go_num, by rw [HSK.out]; exact hGt, hBt, hbt⟩, by simp [intOf]; omega⟩
                      · have hnb : ((r : Int) != (c : Int)) = true := by simp; omega
                        have hHrc := Lib.hid hrc
                        have hbkne : bk c ≠ bk r := fun he => hrc (hGt.inj c r hcn hrn he).symm
                        clear hrc
                        have hcr := hGt.cell hrn
                        have hcc := hGt.cell hcn
                        have hby := (hGt.row r hrn).cell (rowL_get (c := 2 * n) (f := clearAt c V r r) (show c < 2 * n by omega))
                        have hFt := FoldAt.below hF hBt
                        have hrg := hGt.ne hrn
                        have hrb := hbc r hrn
                        have hrB := hGt.geB r hrn
                        have h0lt := FoldAt.lt hF
                        have HS := Lib.hid (clearAt_step c V r hHrc.out)
                        go_wp2_with fail
                        have hbxD : wr.drew.cell? ⟨cb, 0, none⟩ = some (.int .i64 (c : Int)) := hbt
                        have hcrD : wr.drew.cell? ⟨g, r, none⟩ = some (.slice (some ⟨bk r, 0, none⟩) (2 * n) (2 * n)) := hcr
                        have hccD : wr.drew.cell? ⟨g, c, none⟩ = some (.slice (some ⟨bk c, 0, none⟩) (2 * n) (2 * n)) := hcc
                        have hbyD : wr.drew.cell? ⟨bk r, c, none⟩ = some (.int .u8 ((clearAt c V r r c).toNat : Int)) := hby
                        have hFD : FoldAt wr.drew := hFt
                        have hGD : Grid wr.drew w.heap.size g bk n (2 * n) (clearAt c V r) := hGt.below (belowN 1 : Below wr.heap.size wr (wr.drewN 1))
                        have hBD : Below w.heap.size w wr.drew := hBt.trans ((belowN 1 : Below wr.heap.size wr (wr.drewN 1)).mono hBt.size)
                        refine wp_region_held_drew (S := fun w' => w'.cell? ⟨cb, 0, none⟩ = some (.int .i64 (c : Int)) ∧ w'.cell? ⟨g, r, none⟩ = some (.slice (some ⟨bk r, 0, none⟩) (2 * n) (2 * n)) ∧ w'.cell? ⟨g, c, none⟩ = some (.slice (some ⟨bk c, 0, none⟩) (2 * n) (2 * n))) (by kernel_rfl) ⟨hbxD, hcrD, hccD⟩ (fun hHeld => ?_)
                        generalize wr.drew = WG at *
                        clear hcr hcc hby hFt hGt hBt hbt
                        refine wpAnyH_take (i := 0) (v := ?_) rfl (by kernel_rfl) (by kernel_rfl) (by kernel_rfl) (fun _ _ _ h => h) (Or.inl ⟨by rfl, ?_⟩) (by assumption) ?_; rotate_left; (intro w hSw; (try dsimp only at hSw); go_simp; (first | done | (with_reducible rfl))); (try simp only [List.getElem_toArray, List.getElem_cons_succ, List.getElem_cons_zero, Act.put, List.setIfInBounds_toArray, List.set_cons_zero, List.set_cons_succ])
                        refine wpAnyH_take (i := 1) (v := ?_) rfl (by kernel_rfl) (by kernel_rfl) (by kernel_rfl) (fun _ _ _ h => h) (Or.inl ⟨by rfl, ?_⟩) (by assumption) ?_; rotate_left; (intro w hSw; (try dsimp only at hSw); go_simp; (first | done | (with_reducible rfl))); (try simp only [List.getElem_toArray, List.getElem_cons_succ, List.getElem_cons_zero, Act.put, List.setIfInBounds_toArray, List.set_cons_zero, List.set_cons_succ])
                        refine wpAnyH_take (i := 4) (v := ?_) rfl (by kernel_rfl) (by kernel_rfl) (by kernel_rfl) (fun _ _ _ h => h) (Or.inl ⟨by rfl, ?_⟩) (by assumption) ?_; rotate_left; (intro w hSw; (try dsimp only at hSw); go_simp; (first | done | (with_reducible rfl))); (try simp only [List.getElem_toArray, List.getElem_cons_succ, List.getElem_cons_zero, Act.put, List.setIfInBounds_toArray, List.set_cons_zero, List.set_cons_succ])
                        refine wpAnyH_take (i := 5) (v := ?_) rfl (by kernel_rfl) (by kernel_rfl) (by kernel_rfl) (fun _ _ _ h => h) (Or.inl ⟨by rfl, ?_⟩) (by assumption) ?_; rotate_left; (intro w hSw; (try dsimp only at hSw); go_simp; (first | done | (with_reducible rfl))); (try simp only [List.getElem_toArray, List.getElem_cons_succ, List.getElem_cons_zero, Act.put, List.setIfInBounds_toArray, List.set_cons_zero, List.set_cons_succ])
                        refine wpAnyH_take (i := 8) (v := ?_) rfl (by kernel_rfl) (by kernel_rfl) (by kernel_rfl) (fun _ _ _ h => h) (Or.inl ⟨by rfl, ?_⟩) (by assumption) ?_; rotate_left; (intro w hSw; (try dsimp only at hSw); go_simp; (first | done | (with_reducible rfl))); (try simp only [List.getElem_toArray, List.getElem_cons_succ, List.getElem_cons_zero, Act.put, List.setIfInBounds_toArray, List.set_cons_zero, List.set_cons_succ])
                        refine wpAnyH_take (i := 9) (v := ?_) rfl (by kernel_rfl) (by kernel_rfl) (by kernel_rfl) (fun _ _ _ h => h) (Or.inl ⟨by rfl, ?_⟩) (by assumption) ?_; rotate_left; (intro w hSw; (try dsimp only at hSw); go_simp; (first | done | (with_reducible rfl))); (try simp only [List.getElem_toArray, List.getElem_cons_succ, List.getElem_cons_zero, Act.put, List.setIfInBounds_toArray, List.set_cons_zero, List.set_cons_succ])
                        refine wpAnyH_take (i := 12) (v := ?_) rfl (by kernel_rfl) (by kernel_rfl) (by kernel_rfl) (fun _ _ _ h => h) (Or.inl ⟨by rfl, ?_⟩) (by assumption) ?_; rotate_left; (intro w hSw; (try dsimp only at hSw); go_simp; (first | done | (with_reducible rfl))); (try simp only [List.getElem_toArray, List.getElem_cons_succ, List.getElem_cons_zero, Act.put, List.setIfInBounds_toArray, List.set_cons_zero, List.set_cons_succ])
                        refine wpAnyH_take (i := 2) (v := ?_) rfl (by kernel_rfl) (by kernel_rfl) (by kernel_rfl) (fun _ _ _ h => h) (Or.inl ⟨by rfl, ?_⟩) (by assumption) ?_; rotate_left; (intro w hSw; (try dsimp only at hSw); go_simp; (first | done | (with_reducible rfl))); (try simp only [List.getElem_toArray, List.getElem_cons_succ, List.getElem_cons_zero, Act.put, List.setIfInBounds_toArray, List.set_cons_zero, List.set_cons_succ])
                        refine wpAnyH_take (i := 3) (v := ?_) rfl (by kernel_rfl) (by kernel_rfl) (by kernel_rfl) (fun _ _ _ h => h) (Or.inl ⟨by rfl, ?_⟩) (by assumption) ?_; rotate_left; (intro w hSw; (try dsimp only at hSw); go_simp; (first | done | (with_reducible rfl))); (try simp only [List.getElem_toArray, List.getElem_cons_succ, List.getElem_cons_zero, Act.put, List.setIfInBounds_toArray, List.set_cons_zero, List.set_cons_succ])
                        refine wpAnyH_take (i := 6) (v := ?_) rfl (by kernel_rfl) (by kernel_rfl) (by kernel_rfl) (fun _ _ _ h => h) (Or.inl ⟨by rfl, ?_⟩) (by assumption) ?_; rotate_left; (intro w hSw; (try dsimp only at hSw); go_simp; (first | done | (with_reducible rfl))); (try simp only [List.getElem_toArray, List.getElem_cons_succ, List.getElem_cons_zero, Act.put, List.setIfInBounds_toArray, List.set_cons_zero, List.set_cons_succ])
                        refine wpAnyH_take (i := 7) (v := ?_) rfl (by kernel_rfl) (by kernel_rfl) (by kernel_rfl) (fun _ _ _ h => h) (Or.inl ⟨by rfl, ?_⟩) (by assumption) ?_; rotate_left; (intro w hSw; (try dsimp only at hSw); go_simp; (first | done | (with_reducible rfl))); (try simp only [List.getElem_toArray, List.getElem_cons_succ, List.getElem_cons_zero, Act.put, List.setIfInBounds_toArray, List.set_cons_zero, List.set_cons_succ])
                        refine wpAnyH_take (i := 10) (v := ?_) rfl (by kernel_rfl) (by kernel_rfl) (by kernel_rfl) (fun _ _ _ h => h) (Or.inl ⟨by rfl, ?_⟩) (by assumption) ?_; rotate_left; (intro w hSw; (try dsimp only at hSw); go_simp; (first | done | (with_reducible rfl))); (try simp only [List.getElem_toArray, List.getElem_cons_succ, List.getElem_cons_zero, Act.put, List.setIfInBounds_toArray, List.set_cons_zero, List.set_cons_succ])
                        refine wpAnyH_take (i := 11) (v := ?_) rfl (by kernel_rfl) (by kernel_rfl) (by kernel_rfl) (fun _ _ _ h => h) (Or.inl ⟨by rfl, ?_⟩) (by assumption) ?_; rotate_left; (intro w hSw; (try dsimp only at hSw); go_simp; (first | done | (with_reducible rfl))); (try simp only [List.getElem_toArray, List.getElem_cons_succ, List.getElem_cons_zero, Act.put, List.setIfInBounds_toArray, List.set_cons_zero, List.set_cons_succ])
                        refine wpAnyH_take (i := 13) (v := ?_) rfl (by kernel_rfl) (by kernel_rfl) (by kernel_rfl) (fun _ _ _ h => h) (Or.inl ⟨by rfl, ?_⟩) (by assumption) ?_; rotate_left; (intro w hSw; (try dsimp only at hSw); go_simp; (first | done | (with_reducible rfl))); (try simp only [List.getElem_toArray, List.getElem_cons_succ, List.getElem_cons_zero, Act.put, List.setIfInBounds_toArray, List.set_cons_zero, List.set_cons_succ])
                        refine wpAnyH_ready (rs := [14]) (by kernel_rfl) (by simp) ?_; refine AllReadyH.cons rfl (fun K hK => ?_) AllReadyH.nil
                        go_simp
                        go_wp2_with fail
                        refine hK.out _ _ ⟨hbxD, hcrD, hccD⟩ (fun hHeld => ?_)
                        clear hK K
                        (try simp only [List.getElem_toArray, List.getElem_cons_succ, List.getElem_cons_zero, Act.put, List.setIfInBounds_toArray, List.set_cons_zero, List.set_cons_succ])
                        refine wpAnyH_ready (rs := [15]) (by kernel_rfl) (by simp) ?_; refine AllReadyH.cons rfl (fun K hK => ?_) AllReadyH.nil
                        go_simp
                        refine (gather_calls (hGD.row r hrn) (hGD.row c hcn).at hFD (by omega) (fun b off he => by cases he; exact hbkne) (by omega)).mono ?_
                        rintro e w8 ⟨rfl, hg8, hr8⟩
                        go_wp2_with fail
                        have hbx8 := hg8.cell hbxD (by simpa using Ne.symm hrb)
                        refine hK.out _ _ ⟨hbx8, hg8.cell hcrD (by simpa using Ne.symm hrg), hg8.cell hccD (by simpa using Ne.symm hrg)⟩ (fun hHeld => ?_)
                        clear hK K
                        (try simp only [List.getElem_toArray, List.getElem_cons_succ, List.getElem_cons_zero, Act.put, List.setIfInBounds_toArray, List.set_cons_zero, List.set_cons_succ])
                        refine wpAnyH_done (by kernel_rfl) ?_ _
                        go_wp2_with fail
                        have hG8 := hGD.setRow hrn hg8 hr8
                        exact ⟨⟨r + 1, by omega, by go_num, by rw [← HS.out]; exact hG8, hBD.trans (below_of_grown hg8 hBD.size (by intro t ht; cases ht; omega)), hbx8⟩, by simp [intOf]; omega⟩
                    · obtain rfl : n = r := by omega
                      go_wp2_with fail
                      exact ⟨⟨c + 1, bk, clearM c V, by omega, by go_num, hGt.congr (clearAt_end c V n (2 * n)), hBt, by have := HP.out.symm.trans HE.out; rwa [show n - c - 1 = n - (c + 1) by omega] at this⟩, by simp [intOf]; omega⟩
        · obtain rfl : n = c := by omega
          have hR : invM n M = some (fun i j => W i (n + j)) := inv_of_some (HE.out.symm.trans (by rw [Nat.sub_self]; rfl))
          have HRR := Lib.hid hR
          clear hR HE hc hcn
          go_wp2_with fail
          refine (grid_calls (r := n) (c := n) (by omega) (by omega)).mono ?_
          rintro e w3 ⟨go, bo, rfl, hO, hb3⟩
          have hW3 := hGw.below hb3
          have hB3 := hBw.trans (hb3.mono hBw.size)
          have hzw := hBw.size
          have hsep : ∀ i k, i < n → k < n → blk i ≠ bo k := fun i k hi hk he => by have := (hGw.row i hi).lt; have := hO.geB k hk; omega
          have hsepg : ∀ k, k < n → g ≠ bo k := fun k hk he => by have := hGw.ltG; have := hO.geB k hk; omega
          replace hO := hO.lower hzw
          clear hb3 hGw hBw
          go_wp2_with fail
          go_loopw [148] (fun s wr => ∃ i : Nat, i ≤ n ∧ s = .int .i64 ((i : Nat) : Int) ∧ Grid wr w.heap.size g blk n (2 * n) W ∧ Grid wr w.heap.size go bo n n (topAt i (fun i j => W i (n + j))) ∧ Below w.heap.size w wr) (fun s _ => n - (intOf s).toNat)
          case atStart => exact ⟨0, by omega, rfl, hW3, by rw [topAt_start]; exact hO, hB3⟩
          case round =>
            obtain ⟨i, hi, rfl, hWr, hOr, hBr⟩ := hrel
            clear hW3 hO hB3
            by_cases hin : i < n
            · have hii : (i : Int) < (n : Int) := by omega
              have hco := hOr.cell hin
              have hcw := hWr.cell hin
              have hgo := hOr.ne hin
              have hgg := hsepg i hin
              have hn2n : (n : Int) ≤ 2 * (n : Int) := by omega
              have hBo := hOr.geB i hin
              have hsub : 2 * n - n = n := by omega
              go_wp2_with fail
              have hcoD : wr.drew.cell? ⟨go, i, none⟩ = some (.slice (some ⟨bo i, 0, none⟩) n n) := hco
              have hcwD : wr.drew.cell? ⟨g, i, none⟩ = some (.slice (some ⟨blk i, 0, none⟩) (2 * n) (2 * n)) := hcw
              have hWD : Grid wr.drew w.heap.size g blk n (2 * n) W := hWr.below (belowN 1 : Below wr.heap.size wr (wr.drewN 1))
              have hOD : Grid wr.drew w.heap.size go bo n n (topAt i (fun i j => W i (n + j))) := hOr.below (belowN 1 : Below wr.heap.size wr (wr.drewN 1))
              have hBD : Below w.heap.size w wr.drew := hBr.trans ((belowN 1 : Below wr.heap.size wr (wr.drewN 1)).mono hBr.size)
              refine wp_region_held_drew (S := fun w' => w'.cell? ⟨go, i, none⟩ = some (.slice (some ⟨bo i, 0, none⟩) n n) ∧ w'.cell? ⟨g, i, none⟩ = some (.slice (some ⟨blk i, 0, none⟩) (2 * n) (2 * n))) (by kernel_rfl) ⟨hcoD, hcwD⟩ (fun hHeld => ?_)
              generalize wr.drew = WH at *
              clear hco hcw hWr hOr hBr
              refine wpAnyH_take (i := 0) (v := ?_) rfl (by kernel_rfl) (by kernel_rfl) (by kernel_rfl) (fun _ _ _ h => h) (Or.inl ⟨by rfl, ?_⟩) (by assumption) ?_; rotate_left; (intro w hSw; (try dsimp only at hSw); go_simp; (first | done | (with_reducible rfl))); (try simp only [List.getElem_toArray, List.getElem_cons_succ, List.getElem_cons_zero, Act.put, List.setIfInBounds_toArray, List.set_cons_zero, List.set_cons_succ])
              refine wpAnyH_take (i := 1) (v := ?_) rfl (by kernel_rfl) (by kernel_rfl) (by kernel_rfl) (fun _ _ _ h => h) (Or.inl ⟨by rfl, ?_⟩) (by assumption) ?_; rotate_left; (intro w hSw; (try dsimp only at hSw); go_simp; (first | done | (with_reducible rfl))); (try simp only [List.getElem_toArray, List.getElem_cons_succ, List.getElem_cons_zero, Act.put, List.setIfInBounds_toArray, List.set_cons_zero, List.set_cons_succ])
              refine wpAnyH_take (i := 4) (v := ?_) rfl (by kernel_rfl) (by kernel_rfl) (by kernel_rfl) (fun _ _ _ h => h) (Or.inl ⟨by rfl, ?_⟩) (by assumption) ?_; rotate_left; (intro w hSw; (try dsimp only at hSw); go_simp; (first | done | (with_reducible rfl))); (try simp only [List.getElem_toArray, List.getElem_cons_succ, List.getElem_cons_zero, Act.put, List.setIfInBounds_toArray, List.set_cons_zero, List.set_cons_succ])
              refine wpAnyH_take (i := 5) (v := ?_) rfl (by kernel_rfl) (by kernel_rfl) (by kernel_rfl) (fun _ _ _ h => h) (Or.inl ⟨by rfl, ?_⟩) (by assumption) ?_; rotate_left; (intro w hSw; (try dsimp only at hSw); go_simp; (first | done | (with_reducible rfl))); (try simp only [List.getElem_toArray, List.getElem_cons_succ, List.getElem_cons_zero, Act.put, List.setIfInBounds_toArray, List.set_cons_zero, List.set_cons_succ])
              refine wpAnyH_take (i := 8) (v := ?_) rfl (by kernel_rfl) (by kernel_rfl) (by kernel_rfl) (fun _ _ _ h => h) (Or.inl ⟨by rfl, ?_⟩) (by assumption) ?_; rotate_left; (intro w hSw; (try dsimp only at hSw); go_simp; (first | done | (with_reducible rfl))); (try simp only [List.getElem_toArray, List.getElem_cons_succ, List.getElem_cons_zero, Act.put, List.setIfInBounds_toArray, List.set_cons_zero, List.set_cons_succ])
              refine wpAnyH_take (i := 2) (v := ?_) rfl (by kernel_rfl) (by kernel_rfl) (by kernel_rfl) (fun _ _ _ h => h) (Or.inl ⟨by rfl, ?_⟩) (by assumption) ?_; rotate_left; (intro w hSw; (try dsimp only at hSw); go_simp; (first | done | (with_reducible rfl))); (try simp only [List.getElem_toArray, List.getElem_cons_succ, List.getElem_cons_zero, Act.put, List.setIfInBounds_toArray, List.set_cons_zero, List.set_cons_succ])
              refine wpAnyH_take (i := 3) (v := ?_) rfl (by kernel_rfl) (by kernel_rfl) (by kernel_rfl) (fun _ _ _ h => h) (Or.inl ⟨by rfl, ?_⟩) (by assumption) ?_; rotate_left; (intro w hSw; (try dsimp only at hSw); go_simp; (first | done | (with_reducible rfl))); (try simp only [List.getElem_toArray, List.getElem_cons_succ, List.getElem_cons_zero, Act.put, List.setIfInBounds_toArray, List.set_cons_zero, List.set_cons_succ])
              refine wpAnyH_take (i := 6) (v := ?_) rfl (by kernel_rfl) (by kernel_rfl) (by kernel_rfl) (fun _ _ _ h => h) (Or.inl ⟨by rfl, ?_⟩) (by assumption) ?_; rotate_left; (intro w hSw; (try dsimp only at hSw); go_simp; (first | done | (with_reducible rfl))); (try simp only [List.getElem_toArray, List.getElem_cons_succ, List.getElem_cons_zero, Act.put, List.setIfInBounds_toArray, List.set_cons_zero, List.set_cons_succ])
              refine wpAnyH_take (i := 7) (v := ?_) rfl (by kernel_rfl) (by kernel_rfl) (by kernel_rfl) (fun _ _ _ h => h) (Or.inl ⟨by rfl, ?_⟩) (by assumption) ?_; rotate_left; (intro w hSw; (try dsimp only at hSw); go_simp; (first | done | (with_reducible rfl))); (try simp only [List.getElem_toArray, List.getElem_cons_succ, List.getElem_cons_zero, Act.put, List.setIfInBounds_toArray, List.set_cons_zero, List.set_cons_succ])
              have hcut : ∀ w, (Instr.sliceAt 22 (.slice (some ⟨blk i, 0, none⟩) (2 * n) (2 * n)) (some (.int .i64 (n : Int))) none none).run Tryd.prog w = .ok (.slice (some ⟨blk i, n, none⟩) n n) w := fun w =>
                cut_eq n (2 * n) (.inr rfl) (.inl ⟨rfl, rfl⟩) (by omega) (Nat.le_refl _) ((cutA_some (by omega)).trans (by rw [Nat.zero_add])) (by omega) (by omega) w
              refine wpAnyH_take (i := 9) (v := ?_) rfl (by kernel_rfl) (by kernel_rfl) (by kernel_rfl) (fun _ _ _ h => h) (Or.inl ⟨by rfl, ?_⟩) (by assumption) ?_; rotate_left; (intro w hSw; (try dsimp only at hSw); go_simp; (first | done | (with_reducible rfl))); (try simp only [List.getElem_toArray, List.getElem_cons_succ, List.getElem_cons_zero, Act.put, List.setIfInBounds_toArray, List.set_cons_zero, List.set_cons_succ])
              refine wpAnyH_ready (rs := [10]) (by kernel_rfl) (by simp) ?_; refine AllReadyH.cons rfl (fun K hK => ?_) AllReadyH.nil
              refine step_copy_row rfl (.tmp 154) (.tmp 160) rfl rfl rfl (hOD.row i hin) (hWD.row i hin).at_drop (by rw [length_rowL]; exact (Nat.min_self n).symm) (by simpa using hn) (by simp) ?_
              intro w4 hr4 hg4
              refine hK.out _ _ ⟨hg4.cell hcoD (by simpa using Ne.symm hgo), hg4.cell hcwD (by simpa using hgg)⟩ (fun hHeld => ?_)
              clear hK K hcut
              (try simp only [List.getElem_toArray, List.getElem_cons_succ, List.getElem_cons_zero, Act.put, List.setIfInBounds_toArray, List.set_cons_zero, List.set_cons_succ])
              refine wpAnyH_done (by kernel_rfl) ?_ _
              go_wp2_with fail
              have hO4 := hOD.copy hin hg4 hr4
              have hW4 := hWD.keep hg4 hgg (fun k hk => hsep k i hk hin)
              exact ⟨⟨i + 1, by omega, by go_num, hW4, by rw [← topAt_put i _ rfl]; exact hO4, hBD.trans (below_of_grown hg4 hBD.size (by intro t ht; cases ht; exact hBo))⟩, by simp [intOf]; omega⟩
            · obtain rfl : n = i := by omega
              go_wp2_with fail
              go_ret2
              rw [HRR.out]
              exact ⟨go, bo, rfl, hOr.congr (topAt_end _ _ _), hBr⟩

end Go.Proofs.YtibidlgikecelaaDoor
