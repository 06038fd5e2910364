/- Contract: matrix.Rows. -/
import Derived.Test.YtibidlgikecelaaDoorW10
namespace Go.Proofs.YtibidlgikecelaaDoor
open Go.RowKit
set_option linter.unusedVariables false
set_option linter.unusedSimpArgs false

/-- Some rows. -/
def pickM (l : List Int) (M : Mx) : Mx := fun k j => M (l.getD k 0).toNat j
theorem pickM_at {l : List Int} {M : Mx} {k y : Nat} (h : l[k]? = some (y : Int)) : pickM l M k = M y := by
  funext j
  unfold pickM
  rw [List.getD_eq_getElem?_getD, h]
  simp
theorem topAt_put (i : Nat) (M : Mx) {f : Nat → B8} (h : M i = f) : putR (topAt i M) i f = topAt (i + 1) M := by rw [← h, topAt_step]

set_option maxHeartbeats 800000 in
set_option maxRecDepth 100000 in
theorem rows_calls {w : World} {A Al : Option Addr} {r c m cA cl : Nat} {vA : List Value} {M : Mx} {l : List Int} (hA : At w A vA) (hLA : Texts w vA (rowsL r c M)) (hl : At w Al (ints l)) (hm : m = l.length)
    (hr : 0 < r) (hr2 : r ≤ 255) (hc : 0 < c) (hc2 : c ≤ 255) (hl1 : 0 < l.length) (hl2 : l.length ≤ 255) (hin : ∀ y, y ∈ l → 0 ≤ y ∧ y < (r : Int)) :
    Calls Tryd.prog 28 #[.slice A r cA, .slice Al m cl] w (RetM w m c (pickM l M)) := by
  subst hm
  have hri : (0 : Int) < (r : Int) := by omega
  obtain ⟨ba, oa, rfl, hba⟩ := heads_some hA hLA (by simpa using hr)
  obtain ⟨XA0, cA0, hA0, _, _, _⟩ := row_head hA hLA hr
  rw [Nat.add_zero] at hA0
  have hbw := below1' w (.cells #[.slice (some ⟨ba, oa, none⟩) r cA] 24)
  have hbox := box_cell w (.slice (some ⟨ba, oa, none⟩) r cA) 24
  have hisA := Lib.hid (is_calls (c := cA) (hA.below hbw) (hLA.below hbw) (by simp : r = _))
  rw [rowsL_isB M hr hr2 hc hc2] at hisA
  have hm1 : ((l.length : Int) == (0 : Int)) = false := by simp; intro h; rw [h] at hl1; simp at hl1
  have hm2 : decide ((255 : Int) < (l.length : Int)) = false := decide_eq_false (by omega)
  have hsw : (w.alloc (.cells #[.slice (some ⟨ba, oa, none⟩) r cA] 24)).heap.size = w.heap.size + 1 := by simp
  go_enter Tryd.func28, Tryd.ntmps28
  go_wp2_with fail
  refine hisA.out.mono ?_
  generalize w.alloc (.cells #[.slice (some ⟨ba, oa, none⟩) r cA] 24) = w0 at *
  rintro e w1 ⟨rfl, hb1⟩
  have hB1 : Below w.heap.size w w1 := hbw.trans (hb1.mono hbw.size)
  have hbox1 := (hb1.cell (p := ⟨w.heap.size, 0, none⟩) (by simp; omega)).trans hbox
  have hA01 := (hB1.cell (p := ⟨ba, oa, none⟩) hba).trans hA0
  have hHas := Lib.hid (rhas_calls (cl := cl) (hl.below hB1) rfl hl2 hbox1)
  rw [wrong_all hin] at hHas
  go_wp2_with fail
  refine hHas.out.mono ?_
  rintro e w2 ⟨rfl, rfl⟩
  go_wp2_with fail
  refine (grid_calls (r := l.length) (c := c) (by omega) (by omega)).mono ?_
  rintro e w3 ⟨g, blk, rfl, hG, hb3⟩
  have hB3 : Below w.heap.size w w3 := hB1.trans (hb3.mono hB1.size)
  have hz1 : w.heap.size + 1 ≤ w1.heap.size := by have := hb1.size; omega
  have hz3 : w.heap.size + 1 ≤ w3.heap.size := Nat.le_trans hz1 hb3.size
  have hblkB : ∀ i, i < l.length → w.heap.size + 1 ≤ blk i := fun i hi => Nat.le_trans hz1 (hG.geB i hi)
  have hbox3 := (hb3.cell (p := ⟨w.heap.size, 0, none⟩) (by simp; omega)).trans hbox1
  replace hG := hG.lower hz1
  clear hA01 hbox1 hHas hbox
  go_wp2_with fail
  go_loopw [38] (fun s wr => ∃ i : Nat, i ≤ l.length ∧ s = .int .i64 ((i : Nat) : Int) ∧ Grid wr (w.heap.size + 1) g blk l.length c (topAt i (pickM l M)) ∧ Below (w.heap.size + 1) w3 wr) (fun s _ => l.length - (intOf s).toNat)
  case atStart => exact ⟨0, by omega, rfl, by rw [topAt_start]; exact hG, Below.refl _ _⟩
  case round =>
    obtain ⟨i, hi, rfl, hGr, hBr⟩ := hrel
    clear hG
    have hBw : Below w.heap.size w wr := hB3.trans (hBr.mono (by omega))
    by_cases hil : i < l.length
    · have hii : (i : Int) < (l.length : Int) := by omega
      obtain ⟨bl, ol, rfl, hcl⟩ := hl.int hil
      have hx : l[i]? = some l[i] := List.getElem?_eq_getElem hil
      have hxr := hin _ (List.getElem_mem hil)
      generalize l[i] = x at *
      obtain ⟨y, rfl⟩ := Int.eq_ofNat_of_zero_le hxr.1
      have hyr : y < r := by have := hxr.2; omega
      have hP := Lib.hid (pickM_at (M := M) hx)
      obtain ⟨X, cx, hca, hXA, _, _⟩ := row_head hA hLA hyr
      have hcaw := (hBw.cell (p := ⟨ba, oa + y, none⟩) hba).trans hca
      have hclw := (hBw.cell (p := ⟨bl, ol + i, none⟩) (block_lt hcl)).trans hcl
      have hboxw := (hBr.cell (p := ⟨w.heap.size, 0, none⟩) (by simp)).trans hbox3
      have hcg := hGr.cell hil
      have hrow := hGr.row i hil
      have hXw := hXA.below hBw
      have hgl := hGr.ne hil
      have hgB := hGr.geG
      have hbl := hGr.geB i hil
      have hxr2 : ((y : Nat) : Int) < (r : Int) := hxr.2
      have hblt := block_lt hcl
      clear hcl hca hx hxr
      go_wp2_with fail
      have hcgD : wr.drew.cell? ⟨g, i, none⟩ = some (.slice (some ⟨blk i, 0, none⟩) c c) := hcg
      have hcaD : wr.drew.cell? ⟨ba, oa + y, none⟩ = some (.slice X c cx) := hcaw
      have hboxD : wr.drew.cell? ⟨w.heap.size, 0, none⟩ = some (.slice (some ⟨ba, oa, none⟩) r cA) := hboxw
      refine wp_region_held_drew (S := fun w' => w'.cell? ⟨g, i, none⟩ = some (.slice (some ⟨blk i, 0, none⟩) c c) ∧ w'.cell? ⟨ba, oa + y, none⟩ = some (.slice X c cx) ∧ w'.cell? ⟨w.heap.size, 0, none⟩ = some (.slice (some ⟨ba, oa, none⟩) r cA)) (by kernel_rfl) ⟨hcgD, hcaD, hboxD⟩ (fun hHeld => ?_)
      have hGD : Grid wr.drew (w.heap.size + 1) g blk l.length c (topAt i (pickM l M)) := hGr.below (belowN 1 : Below wr.heap.size wr (wr.drewN 1))
      have hrD : RowB wr.drew (blk i) (rowL c (topAt i (pickM l M) i)) := hrow
      have hXD : At wr.drew X (bys (rowL c (M y))) := hXw
      have hBD : Below (w.heap.size + 1) w3 wr.drew := hBr.trans ((belowN 1 : Below wr.heap.size wr (wr.drewN 1)).mono (Nat.le_trans hz3 hBr.size))
      generalize wr.drew = WD at *
      clear hcg hcaw hclw hboxw hrow hXw hGr hBr hBw
      refine wpAnyH_take (i := 0) (v := ?_) rfl (by kernel_rfl) (by kernel_rfl) (by kernel_rfl) (fun _ _ _ h => h) (Or.inl ⟨by rfl, ?_⟩) (by assumption) ?_; rotate_left; (intro w hSw; (try dsimp only at hSw); go_simp; (first | done | (with_reducible rfl))); (try simp only [List.getElem_toArray, List.getElem_cons_succ, List.getElem_cons_zero, Act.put, List.setIfInBounds_toArray, List.set_cons_zero, List.set_cons_succ])
      refine wpAnyH_take (i := 1) (v := ?_) rfl (by kernel_rfl) (by kernel_rfl) (by kernel_rfl) (fun _ _ _ h => h) (Or.inl ⟨by rfl, ?_⟩) (by assumption) ?_; rotate_left; (intro w hSw; (try dsimp only at hSw); go_simp; (first | done | (with_reducible rfl))); (try simp only [List.getElem_toArray, List.getElem_cons_succ, List.getElem_cons_zero, Act.put, List.setIfInBounds_toArray, List.set_cons_zero, List.set_cons_succ])
      refine wpAnyH_take (i := 2) (v := ?_) rfl (by kernel_rfl) (by kernel_rfl) (by kernel_rfl) (fun _ _ _ h => h) (Or.inl ⟨by rfl, ?_⟩) (by assumption) ?_; rotate_left; (intro w hSw; (try dsimp only at hSw); go_simp; (first | done | (with_reducible rfl))); (try simp only [List.getElem_toArray, List.getElem_cons_succ, List.getElem_cons_zero, Act.put, List.setIfInBounds_toArray, List.set_cons_zero, List.set_cons_succ])
      refine wpAnyH_take (i := 3) (v := ?_) rfl (by kernel_rfl) (by kernel_rfl) (by kernel_rfl) (fun _ _ _ h => h) (Or.inl ⟨by rfl, ?_⟩) (by assumption) ?_; rotate_left; (intro w hSw; (try dsimp only at hSw); go_simp; (first | done | (with_reducible rfl))); (try simp only [List.getElem_toArray, List.getElem_cons_succ, List.getElem_cons_zero, Act.put, List.setIfInBounds_toArray, List.set_cons_zero, List.set_cons_succ])
      refine wpAnyH_take (i := 4) (v := ?_) rfl (by kernel_rfl) (by kernel_rfl) (by kernel_rfl) (fun _ _ _ h => h) (Or.inl ⟨by rfl, ?_⟩) (by assumption) ?_; rotate_left; (intro w hSw; (try dsimp only at hSw); go_simp; (first | done | (with_reducible rfl))); (try simp only [List.getElem_toArray, List.getElem_cons_succ, List.getElem_cons_zero, Act.put, List.setIfInBounds_toArray, List.set_cons_zero, List.set_cons_succ])
      refine wpAnyH_take (i := 5) (v := ?_) rfl (by kernel_rfl) (by kernel_rfl) (by kernel_rfl) (fun _ _ _ h => h) (Or.inl ⟨by rfl, ?_⟩) (by assumption) ?_; rotate_left; (intro w hSw; (try dsimp only at hSw); go_simp; (first | done | (with_reducible rfl))); (try simp only [List.getElem_toArray, List.getElem_cons_succ, List.getElem_cons_zero, Act.put, List.setIfInBounds_toArray, List.set_cons_zero, List.set_cons_succ])
      refine wpAnyH_take (i := 6) (v := ?_) rfl (by kernel_rfl) (by kernel_rfl) (by kernel_rfl) (fun _ _ _ h => h) (Or.inl ⟨by rfl, ?_⟩) (by assumption) ?_; rotate_left; (intro w hSw; (try dsimp only at hSw); go_simp; (first | done | (with_reducible rfl))); (try simp only [List.getElem_toArray, List.getElem_cons_succ, List.getElem_cons_zero, Act.put, List.setIfInBounds_toArray, List.set_cons_zero, List.set_cons_succ])
      refine wpAnyH_take (i := 7) (v := ?_) rfl (by kernel_rfl) (by kernel_rfl) (by kernel_rfl) (fun _ _ _ h => h) (Or.inl ⟨by rfl, ?_⟩) (by assumption) ?_; rotate_left; (intro w hSw; (try dsimp only at hSw); go_simp; (first | done | (with_reducible rfl))); (try simp only [List.getElem_toArray, List.getElem_cons_succ, List.getElem_cons_zero, Act.put, List.setIfInBounds_toArray, List.set_cons_zero, List.set_cons_succ])
      refine wpAnyH_ready (rs := [8]) (by kernel_rfl) (by simp) ?_; refine AllReadyH.cons rfl (fun K hK => ?_) AllReadyH.nil
      refine step_copy_row rfl (.tmp 46) (.tmp 50) rfl rfl rfl hrD hXD (by simp) (by simpa using hc) (by simp) ?_
      intro w4 hr4 hg4
      refine hK.out _ _ ⟨hg4.cell hcgD (by simpa using Ne.symm hgl), hg4.cell hcaD (by simp; omega), hg4.cell hboxD (by simp; omega)⟩ (fun hHeld => ?_)
      clear hK K
      (try simp only [List.getElem_toArray, List.getElem_cons_succ, List.getElem_cons_zero, Act.put, List.setIfInBounds_toArray, List.set_cons_zero, List.set_cons_succ])
      refine wpAnyH_done (by kernel_rfl) ?_ _
      go_wp2_with fail
      have hG4 := hGD.copy hil hg4 hr4
      rw [topAt_put i _ hP.out] at hG4
      exact ⟨⟨i + 1, by omega, by go_num, hG4, hBD.trans (below_of_grown hg4 (Nat.le_trans hz3 hBD.size) (by intro t ht; cases ht; omega))⟩, by simp [intOf]; omega⟩
    · obtain rfl : i = l.length := by omega
      go_wp2_with fail
      go_ret2
      exact ⟨g, blk, rfl, (hGr.lower (by omega)).congr (topAt_end _ _ _), hBw⟩

end Go.Proofs.YtibidlgikecelaaDoor
