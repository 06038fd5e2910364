/- Contract: the law MatrixSingular. -/
import Derived.Test.YtibidlgikecelaaDoorW17
namespace Go.Proofs.YtibidlgikecelaaDoor
open Go.RowKit
set_option linter.unusedVariables false
set_option linter.unusedSimpArgs false

theorem invert_mat {w : World} {A : Option Addr} {n cA : Nat} {M : Mx} (hA : MatAt w A n n M) (hn : 0 < n ∧ n ≤ 255) (hF : FoldAt w) :
    Calls Tryd.prog 27 #[.slice A n cA] w (RetInv w n (invM n M)) := by
  obtain ⟨vA, h1, h2⟩ := hA
  exact invert_calls h1 h2 hn.1 hn.2 hF

/-- The next row, round about. -/
theorem next_row {i n : Nat} (hi : i < n) (hn : 2 ≤ n) (hn2 : n ≤ 1000) : ∃ k : Nat, k < n ∧ k ≠ i ∧ ((i : Int) + 1).tmod (n : Int) = (k : Int) := by
  rw [Int.tmod_eq_emod_of_nonneg (by omega)]
  by_cases h : i + 1 = n
  · refine ⟨0, by omega, by omega, ?_⟩
    rw [show (i : Int) + 1 = (n : Int) by omega]
    simp
  · refine ⟨i + 1, by omega, by omega, ?_⟩
    rw [Int.emod_eq_of_lt (by omega) (by omega)]
    omega

set_option maxHeartbeats 800000 in
set_option maxRecDepth 100000 in
theorem matrixSingular_calls {w : World} {A : Option Addr} {na ca : Nat} {la : List B8} {x y : Int} (hA : At w A (bys la)) (hna : na = la.length) (hma : la.length ≤ 140737488351232) (hF : FoldAt w) :
    Calls Tryd.prog 4 #[.slice A na ca, .int .i64 x, .int .i64 y] w (RetV w (.bool true)) := by
  obtain ⟨n, hn1, hn2, hne⟩ := pick_add 2 x 5 (by decide) (by decide) (by decide)
  have HN := Lib.hid hne
  clear hne
  have hnA : n ≤ 6 := by omega
  have hn : 0 < n ∧ n ≤ 255 := by omega
  have HPl := Lib.hid (place_wrap hn.1 (by omega) y)
  have hpin := placeOf_in hn.1 y
  generalize placeOf n y = z at *
  obtain ⟨i, rfl⟩ := Int.eq_ofNat_of_zero_le hpin.1
  have hin : i < n := by omega
  have hini : (i : Int) < (n : Int) := by omega
  obtain ⟨k, hkn, hki, hkm⟩ := next_row hin hn1 (by omega)
  have HK := Lib.hid hkm
  clear hkm hpin
  have hnw : IntKind.u64.wrap (n : Int) = (n : Int) := by rw [IntKind.wrap_u64]; omega
  go_enter Tryd.func4, Tryd.ntmps4
  go_wp2_with fail
  have hne := HN.out
  rw [show ((2 : Nat) : Int) = (2 : Int) from rfl] at hne
  rw [hne]
  clear hne HN
  refine (square_calls hA rfl hma hnA).mono ?_
  rintro e w1 ⟨A1, c1, blk, rfl, hG, HB⟩
  obtain ⟨g, hgA, hgB, hcI, hbg, hfI⟩ := hG.cell hin
  obtain ⟨g', hgA', _, hcK, _, _⟩ := hG.cell hkn
  rw [hgA] at hgA'
  cases hgA'
  subst hgA
  have hone : n ≠ 0 := by omega
  have hnkn : (k : Int) < (n : Int) := by omega
  go_wp2_with fail
  rw [HPl.out]
  have hcID : w1.drew.cell? ⟨g, i, none⟩ = some (.slice (some ⟨blk i, 0, none⟩) n n) := hcI
  have hcKD : w1.drew.cell? ⟨g, k, none⟩ = some (.slice (some ⟨blk k, 0, none⟩) n n) := hcK
  have hGD : OwnG w1.drew w.heap.size (some ⟨g, 0, none⟩) c1 blk n n (sqM la n) := hG.below (belowN 1 : Below w1.heap.size w1 (w1.drewN 1))
  have hBD : Below w.heap.size w w1.drew := HB.trans ((belowN 1 : Below w1.heap.size w1 (w1.drewN 1)).mono HB.size)
  refine wp_region_held_drew (S := fun w' => w'.cell? ⟨g, i, none⟩ = some (.slice (some ⟨blk i, 0, none⟩) n n) ∧ w'.cell? ⟨g, k, none⟩ = some (.slice (some ⟨blk k, 0, none⟩) n n)) (by kernel_rfl) ⟨hcID, hcKD⟩ (fun hHeld => ?_)
  generalize w1.drew = WD at *
  clear hcI hcK hG HB
  have hwi : IntKind.i64.wrap ((i : Int) + 1) = (i : Int) + 1 := IntWalk.i64_in _ (by omega)
  have hwk : IntKind.i64.wrap (k : Int) = (k : Int) := IntWalk.i64_in _ (by omega)
  have hkm := HK.out
  refine wpAnyH_take (i := 0) (v := ?_) rfl (by kernel_rfl) (by kernel_rfl) (by kernel_rfl) (fun _ _ _ h => h) (Or.inl ⟨by rfl, ?_⟩) (by assumption) ?_; rotate_left; (intro w hSw; (try dsimp only at hSw); go_simp; (first | done | (with_reducible rfl))); (try simp only [List.getElem_toArray, List.getElem_cons_succ, List.getElem_cons_zero, Act.put, List.setIfInBounds_toArray, List.set_cons_zero, List.set_cons_succ])
  refine wpAnyH_take (i := 1) (v := ?_) rfl (by kernel_rfl) (by kernel_rfl) (by kernel_rfl) (fun _ _ _ h => h) (Or.inl ⟨by rfl, ?_⟩) (by assumption) ?_; rotate_left; (intro w hSw; (try dsimp only at hSw); go_simp; (first | done | (with_reducible rfl))); (try simp only [List.getElem_toArray, List.getElem_cons_succ, List.getElem_cons_zero, Act.put, List.setIfInBounds_toArray, List.set_cons_zero, List.set_cons_succ])
  refine wpAnyH_take (i := 4) (v := ?_) rfl (by kernel_rfl) (by kernel_rfl) (by kernel_rfl) (fun _ _ _ h => h) (Or.inl ⟨by rfl, ?_⟩) (by assumption) ?_; rotate_left; (intro w hSw; (try dsimp only at hSw); go_simp; (first | done | (with_reducible rfl))); (try simp only [List.getElem_toArray, List.getElem_cons_succ, List.getElem_cons_zero, Act.put, List.setIfInBounds_toArray, List.set_cons_zero, List.set_cons_succ])
  refine wpAnyH_take (i := 5) (v := ?_) rfl (by kernel_rfl) (by kernel_rfl) (by kernel_rfl) (fun _ _ _ h => h) (Or.inl ⟨by rfl, ?_⟩) (by assumption) ?_; rotate_left; (intro w hSw; (try dsimp only at hSw); go_simp; (first | done | (with_reducible rfl))); (try simp only [List.getElem_toArray, List.getElem_cons_succ, List.getElem_cons_zero, Act.put, List.setIfInBounds_toArray, List.set_cons_zero, List.set_cons_succ])
  refine wpAnyH_take (i := 7) (v := ?_) rfl (by kernel_rfl) (by kernel_rfl) (by kernel_rfl) (fun _ _ _ h => h) (Or.inl ⟨by rfl, ?_⟩) (by assumption) ?_; rotate_left; (intro w hSw; (try dsimp only at hSw); go_simp; (first | done | (with_reducible rfl))); (try simp only [List.getElem_toArray, List.getElem_cons_succ, List.getElem_cons_zero, Act.put, List.setIfInBounds_toArray, List.set_cons_zero, List.set_cons_succ])
  refine wpAnyH_take (i := 2) (v := ?_) rfl (by kernel_rfl) (by kernel_rfl) (by kernel_rfl) (fun _ _ _ h => h) (Or.inl ⟨by rfl, ?_⟩) (by assumption) ?_; rotate_left; (intro w hSw; (try dsimp only at hSw); go_simp; (first | done | (with_reducible rfl))); (try simp only [List.getElem_toArray, List.getElem_cons_succ, List.getElem_cons_zero, Act.put, List.setIfInBounds_toArray, List.set_cons_zero, List.set_cons_succ])
  refine wpAnyH_take (i := 3) (v := ?_) rfl (by kernel_rfl) (by kernel_rfl) (by kernel_rfl) (fun _ _ _ h => h) (Or.inl ⟨by rfl, ?_⟩) (by assumption) ?_; rotate_left; (intro w hSw; (try dsimp only at hSw); go_simp; (first | done | (with_reducible rfl))); (try simp only [List.getElem_toArray, List.getElem_cons_succ, List.getElem_cons_zero, Act.put, List.setIfInBounds_toArray, List.set_cons_zero, List.set_cons_succ])
  refine wpAnyH_take (i := 6) (v := ?_) rfl (by kernel_rfl) (by kernel_rfl) (by kernel_rfl) (fun _ _ _ h => h) (Or.inl ⟨by rfl, ?_⟩) (by assumption) ?_; rotate_left; (intro w hSw; (try dsimp only at hSw); go_simp; (first | done | (with_reducible rfl))); (try simp only [List.getElem_toArray, List.getElem_cons_succ, List.getElem_cons_zero, Act.put, List.setIfInBounds_toArray, List.set_cons_zero, List.set_cons_succ])
  refine wpAnyH_take (i := 8) (v := ?_) rfl (by kernel_rfl) (by kernel_rfl) (by kernel_rfl) (fun _ _ _ h => h) (Or.inl ⟨by rfl, ?_⟩) (by assumption) ?_; rotate_left; (intro w hSw; (try dsimp only at hSw); go_simp; (first | done | (with_reducible rfl))); (try simp only [List.getElem_toArray, List.getElem_cons_succ, List.getElem_cons_zero, Act.put, List.setIfInBounds_toArray, List.set_cons_zero, List.set_cons_succ])
  refine wpAnyH_take (i := 9) (v := ?_) rfl (by kernel_rfl) (by kernel_rfl) (by kernel_rfl) (fun _ _ _ h => h) (Or.inl ⟨by rfl, ?_⟩) (by assumption) ?_; rotate_left; (intro w hSw; (try dsimp only at hSw); go_simp; (first | done | (with_reducible rfl))); (try simp only [List.getElem_toArray, List.getElem_cons_succ, List.getElem_cons_zero, Act.put, List.setIfInBounds_toArray, List.set_cons_zero, List.set_cons_succ])
  refine wpAnyH_take (i := 10) (v := ?_) rfl (by kernel_rfl) (by kernel_rfl) (by kernel_rfl) (fun _ _ _ h => h) (Or.inl ⟨by rfl, ?_⟩) (by assumption) ?_; rotate_left; (intro w hSw; (try dsimp only at hSw); go_simp; (first | done | (with_reducible rfl))); (try simp only [List.getElem_toArray, List.getElem_cons_succ, List.getElem_cons_zero, Act.put, List.setIfInBounds_toArray, List.set_cons_zero, List.set_cons_succ])
  clear hwi hwk hkm
  refine wpAnyH_ready (rs := [11]) (by kernel_rfl) (by simp) ?_; refine AllReadyH.cons rfl (fun K hK => ?_) AllReadyH.nil
  refine step_copy_row rfl (.tmp 27) (.tmp 34) rfl rfl rfl (hGD.row i hin) (hGD.row k hkn).at (by rw [length_rowL]; exact (Nat.min_self n).symm) (by simpa using hn.1) (by simp) ?_
  intro w4 hr4 hg4
  have hgi := hbg i hin
  refine hK.out _ _ ⟨hg4.cell hcID (by simpa using Ne.symm hgi), hg4.cell hcKD (by simpa using Ne.symm hgi)⟩ (fun hHeld => ?_)
  clear hK K
  (try simp only [List.getElem_toArray, List.getElem_cons_succ, List.getElem_cons_zero, Act.put, List.setIfInBounds_toArray, List.set_cons_zero, List.set_cons_succ])
  refine wpAnyH_done (by kernel_rfl) ?_ _
  rw [over_full (by simp)] at hr4
  have hG4 := hGD.setRow hin hg4 hr4
  have hgei := hGD.geB i hin
  have hB4 := hBD.trans (below_of_grown hg4 hBD.size (by intro t ht; cases ht; exact hgei))
  have hinv : invM n (putR (sqM la n) i (sqM la n k)) = none := inv_twice hin hkn (Ne.symm hki) (fun j _ => by simp [putR, hki])
  have hI := Lib.hid (invert_mat (cA := c1) (hG4.mat (by omega)) hn (FoldAt.below hF hB4))
  rw [hinv] at hI
  clear hinv hgi hgei hHeld hcID hcKD
  go_wp2_with fail
  refine hI.out.mono ?_
  rintro e w5 ⟨rfl, hb5⟩
  go_wp2_with fail
  go_ret
  exact ⟨rfl, hB4.trans (hb5.mono hB4.size)⟩

end Go.Proofs.YtibidlgikecelaaDoor
