/- Contract: reed.Right, of shards that are all there. -/
import Derived.Test.YtibidlgikecelaaDoorR6
namespace Go.Proofs.YtibidlgikecelaaDoor
open Go.RowKit
set_option linter.unusedVariables false
set_option linter.unusedSimpArgs false

theorem cut_heads {A A' : Option Addr} {n c n' c' : Nat} {lo hi' : Option Value} (l h : Nat) (hl : lo = none ∧ l = 0 ∨ lo = some (.int .i64 l)) (hh : hi' = none ∧ h = n ∨ hi' = some (.int .i64 h))
    (hlh : l ≤ h) (hhc : h ≤ c) (hA : cutA A l c = A') (hn : h - l = n') (hc : c - l = c') (w : World) :
    (Instr.sliceAt 24 (.slice A n c) lo hi' none).run Tryd.prog w = .ok (.slice A' n' c') w := by
  subst hA hn hc
  obtain ⟨i, hi, hz0, hz1, hz2⟩ := info_parts headinfo
  refine run_cut (P := Tryd.prog) w 24 22 i Tryd.underlying24 hi hz1 A n c lo hi' none l h c hl ?_ (.inl ⟨rfl, rfl⟩) hlh hhc (Nat.le_refl _)
  rcases hh with ⟨h1, h2⟩ | h1
  · exact .inl ⟨h1, h2, rfl⟩
  · exact .inr h1
theorem cutA_zero {b off c : Nat} (h : 0 < c) : cutA (some ⟨b, off, none⟩) 0 c = some ⟨b, off, none⟩ := by
  rw [cutA_some (by omega)]; rfl
theorem MatAt.take {w : World} {A : Option Addr} {r c k : Nat} {M : Mx} (h : MatAt w A r c M) (hk : k ≤ r) : MatAt w A k c M := by
  obtain ⟨vs, h1, h2⟩ := h
  refine ⟨vs.take k, h1.take k, by have := h2.1; simp at this ⊢; omega, ?_⟩
  intro i v l hv hl
  have hi : i < k := by
    rcases Nat.lt_or_ge i k with h | h
    · exact h
    · rw [List.getElem?_take, if_neg (by omega)] at hv; cases hv
  rw [List.getElem?_take, if_pos hi] at hv
  rw [rowsL_get hi] at hl
  exact h2.2 i v l hv (by rw [rowsL_get (by omega)]; exact hl)
theorem presL_all {r c : Nat} (M : Mx) (hc : 0 < c) : presL (rowsL r c M) r = List.range r := by
  unfold presL
  rw [List.filter_eq_self]
  intro k hk
  have hk' := List.mem_range.1 hk
  rw [List.getD_eq_getElem?_getD, rowsL_get hk']
  simp only [Option.getD_some, decide_eq_true_eq]
  intro h
  have := congrArg List.length h
  simp at this
  omega

set_option maxHeartbeats 1000000 in
set_option maxRecDepth 100000 in
theorem right_calls {w : World} {K M N c cS : Nat} {S : Option Addr} {P : Mx} (hS : MatAt w S N c P) (hN : N = K + M) (hK : 1 ≤ K) (hKM : K + M ≤ 255) (hc : 0 < c) (hc2 : c ≤ 1000) (hcS : N ≤ cS) (hF : FoldAt w) :
    Calls Tryd.prog 45 #[.agg #[.int .i64 (K : Int), .int .i64 (M : Int)], .slice S N cS] w (RetV w (.bool (decide (rowsL N c (mulM K (genM K) P) = rowsL N c P)))) := by
  have hSS := hS
  obtain ⟨vs, hS1, hS2⟩ := hS
  obtain ⟨bS, oS, rfl⟩ := some_of_at hS1 (by rw [hS2.1]; simp; omega)
  have hb1 := below1' w (.cells #[.int .i64 (K : Int), .int .i64 (M : Int)] 38)
  have hk0 : (w.alloc (.cells #[.int .i64 (K : Int), .int .i64 (M : Int)] 38)).cell? ⟨w.heap.size, 0, none⟩ = some (.int .i64 (K : Int)) := cell_of_row _ _ 0 _ _ (0, 0) (heap_alloc_new w _)
  have hk1 : (w.alloc (.cells #[.int .i64 (K : Int), .int .i64 (M : Int)] 38)).cell? ⟨w.heap.size, 1, none⟩ = some (.int .i64 (M : Int)) := cell_of_row _ _ 1 _ _ (0, 0) (heap_alloc_new w _)
  have HSM := Lib.hid (some_calls (c := c) (cS := cS) (hS1.below hb1) (hS2.below hb1) (by simp : N = (rowsL N c P).length) hN hK hKM (fun l hl => by
    obtain ⟨i, hi, rfl⟩ := List.getElem_of_mem hl
    right
    have h1 : (rowsL N c P)[i]? = some (rowL c (P i)) := rowsL_get (by simpa using hi)
    rw [List.getElem?_eq_getElem hi] at h1
    rw [Option.some.inj h1]
    simp) hc)
  rw [presL_all P hc] at HSM
  have hKN : K ≤ N := by omega
  have hKNi : (K : Int) ≤ (cS : Int) := by omega
  have hNN := Lib.hid hN
  generalize hr : decide (rowsL N c (mulM K (genM K) P) = rowsL N c P) = res
  have HR := Lib.hid hr
  clear hr hN
  go_enter Tryd.func45, Tryd.ntmps45
  go_wp2_with fail
  generalize w.alloc (.cells #[.int .i64 (K : Int), .int .i64 (M : Int)] 38) = wa at *
  refine HSM.out.mono ?_
  rintro e w2 ⟨Al, cl, rfl, _, _, _, hb2⟩
  have hB2 := hb1.trans (hb2.mono hb1.size)
  have hk02 := (hb2.cell (p := ⟨w.heap.size, 0, none⟩) (block_lt hk0)).trans hk0
  have hk12 := (hb2.cell (p := ⟨w.heap.size, 1, none⟩) (block_lt hk1)).trans hk1
  have hlr : (List.range N).length = N := by simp
  rw [hlr]
  clear hlr hk0 hk1 hb1 HSM
  go_wp2_with fail
  have hk0D : w2.drew.cell? ⟨w.heap.size, 0, none⟩ = some (.int .i64 (K : Int)) := hk02
  have hk1D : w2.drew.cell? ⟨w.heap.size, 1, none⟩ = some (.int .i64 (M : Int)) := hk12
  have hBD : Below w.heap.size w w2.drew := hB2.drew
  refine wp_region_held_drew (S := fun w' => w'.cell? ⟨w.heap.size, 0, none⟩ = some (.int .i64 (K : Int)) ∧ w'.cell? ⟨w.heap.size, 1, none⟩ = some (.int .i64 (M : Int))) (by kernel_rfl) ⟨hk0D, hk1D⟩ (fun hHeld => ?_)
  generalize w2.drew = WD at *
  clear hk02 hk12 hB2 hb2
  have hcut : ∀ w, (Instr.sliceAt 24 (.slice (some ⟨bS, oS, none⟩) N cS) none (some (.int .i64 (K : Int))) none).run Tryd.prog w = .ok (.slice (some ⟨bS, oS, none⟩) K cS) w := fun w =>
    cut_heads 0 K (.inl ⟨rfl, rfl⟩) (.inr rfl) (by omega) (by omega) (cutA_zero (by omega)) (by omega) (by omega) w
  refine wpAnyH_take (i := 1) (v := ?_) rfl (by kernel_rfl) (by kernel_rfl) (by kernel_rfl) (fun _ _ _ h => h) (Or.inl ⟨by rfl, ?_⟩) (by assumption) ?_; rotate_left; (intro w hSw; (try dsimp only at hSw); go_simp; (first | done | (with_reducible rfl))); (try simp only [List.getElem_toArray, List.getElem_cons_succ, List.getElem_cons_zero, Act.put, List.setIfInBounds_toArray, List.set_cons_zero, List.set_cons_succ])
  refine wpAnyH_take (i := 2) (v := ?_) rfl (by kernel_rfl) (by kernel_rfl) (by kernel_rfl) (fun _ _ _ h => h) (Or.inl ⟨by rfl, ?_⟩) (by assumption) ?_; rotate_left; (intro w hSw; (try dsimp only at hSw); go_simp; (first | done | (with_reducible rfl))); (try simp only [List.getElem_toArray, List.getElem_cons_succ, List.getElem_cons_zero, Act.put, List.setIfInBounds_toArray, List.set_cons_zero, List.set_cons_succ])
  refine wpAnyH_take (i := 0) (v := ?_) rfl (by kernel_rfl) (by kernel_rfl) (by kernel_rfl) (fun _ _ _ h => h) (Or.inl ⟨by rfl, ?_⟩) (by assumption) ?_; rotate_left; (intro w hSw; (try dsimp only at hSw); go_simp; (first | done | (with_reducible rfl))); (try simp only [List.getElem_toArray, List.getElem_cons_succ, List.getElem_cons_zero, Act.put, List.setIfInBounds_toArray, List.set_cons_zero, List.set_cons_succ])
  refine wpAnyH_take (i := 3) (v := ?_) rfl (by kernel_rfl) (by kernel_rfl) (by kernel_rfl) (fun _ _ _ h => h) (Or.inl ⟨by rfl, ?_⟩) (by assumption) ?_; rotate_left; (intro w hSw; (try dsimp only at hSw); go_simp; (first | done | (with_reducible rfl))); (try simp only [List.getElem_toArray, List.getElem_cons_succ, List.getElem_cons_zero, Act.put, List.setIfInBounds_toArray, List.set_cons_zero, List.set_cons_succ])
  refine wpAnyH_take (i := 4) (v := ?_) rfl (by kernel_rfl) (by kernel_rfl) (by kernel_rfl) (fun _ _ _ h => h) (Or.inl ⟨by rfl, ?_⟩) (by assumption) ?_; rotate_left; (intro w hSw; (try dsimp only at hSw); go_simp; (first | done | (with_reducible rfl))); (try simp only [List.getElem_toArray, List.getElem_cons_succ, List.getElem_cons_zero, Act.put, List.setIfInBounds_toArray, List.set_cons_zero, List.set_cons_succ])
  refine wpAnyH_ready (rs := [5]) (by kernel_rfl) (by simp) ?_; refine AllReadyH.cons rfl (fun KK hKK => ?_) AllReadyH.nil
  go_simp
  refine (encode_mat ((hSS.take hKN).below hBD) hK hKM hc hc2 (FoldAt.below hF hBD)).mono ?_
  rintro e w5 ⟨A5, c5, rfl, hX, hb5⟩
  go_wp2_with fail
  refine hKK.out _ _ ⟨(hb5.cell (p := ⟨w.heap.size, 0, none⟩) (block_lt hk0D)).trans hk0D, (hb5.cell (p := ⟨w.heap.size, 1, none⟩) (block_lt hk1D)).trans hk1D⟩ (fun hHeld => ?_)
  clear hKK KK
  (try simp only [List.getElem_toArray, List.getElem_cons_succ, List.getElem_cons_zero, Act.put, List.setIfInBounds_toArray, List.set_cons_zero, List.set_cons_succ])
  refine wpAnyH_take (i := 6) (v := ?_) rfl (by kernel_rfl) (by kernel_rfl) (by kernel_rfl) (fun _ _ _ h => h) (Or.inl ⟨by rfl, ?_⟩) (by assumption) ?_; rotate_left; (intro w hSw; (try dsimp only at hSw); go_simp; (first | done | (with_reducible rfl))); (try simp only [List.getElem_toArray, List.getElem_cons_succ, List.getElem_cons_zero, Act.put, List.setIfInBounds_toArray, List.set_cons_zero, List.set_cons_succ])
  refine wpAnyH_take (i := 7) (v := ?_) rfl (by kernel_rfl) (by kernel_rfl) (by kernel_rfl) (fun _ _ _ h => h) (Or.inl ⟨by rfl, ?_⟩) (by assumption) ?_; rotate_left; (intro w hSw; (try dsimp only at hSw); go_simp; (first | done | (with_reducible rfl))); (try simp only [List.getElem_toArray, List.getElem_cons_succ, List.getElem_cons_zero, Act.put, List.setIfInBounds_toArray, List.set_cons_zero, List.set_cons_succ])
  refine wpAnyH_take (i := 8) (v := ?_) rfl (by kernel_rfl) (by kernel_rfl) (by kernel_rfl) (fun _ _ _ h => h) (Or.inl ⟨by rfl, ?_⟩) (by assumption) ?_; rotate_left; (intro w hSw; (try dsimp only at hSw); go_simp; (first | done | (with_reducible rfl))); (try simp only [List.getElem_toArray, List.getElem_cons_succ, List.getElem_cons_zero, Act.put, List.setIfInBounds_toArray, List.set_cons_zero, List.set_cons_succ])
  refine wpAnyH_take (i := 9) (v := ?_) rfl (by kernel_rfl) (by kernel_rfl) (by kernel_rfl) (fun _ _ _ h => h) (Or.inl ⟨by rfl, ?_⟩) (by assumption) ?_; rotate_left; (intro w hSw; (try dsimp only at hSw); go_simp; (first | done | (with_reducible rfl))); (try simp only [List.getElem_toArray, List.getElem_cons_succ, List.getElem_cons_zero, Act.put, List.setIfInBounds_toArray, List.set_cons_zero, List.set_cons_succ])
  refine wpAnyH_take (i := 10) (v := ?_) rfl (by kernel_rfl) (by kernel_rfl) (by kernel_rfl) (fun _ _ _ h => h) (Or.inl ⟨by rfl, ?_⟩) (by assumption) ?_; rotate_left; (intro w hSw; (try dsimp only at hSw); go_simp; (first | done | (with_reducible rfl))); (try simp only [List.getElem_toArray, List.getElem_cons_succ, List.getElem_cons_zero, Act.put, List.setIfInBounds_toArray, List.set_cons_zero, List.set_cons_succ])
  refine wpAnyH_done (by kernel_rfl) ?_ _
  have hB5 := hBD.trans (hb5.mono hBD.size)
  obtain ⟨vX, hX1, hX2⟩ := hX
  have hEQ := Lib.hid (eqt_calls (a := c5) (b := cS) hX1 hX2 (hS1.below hB5) (hS2.below hB5) (by simp : K + M = _) (by simp : N = _) (by simp; omega))
  rw [← hNN.out, HR.out] at hEQ
  have hNs : (K : Int) + (M : Int) = (N : Int) := by have := hNN.out; omega
  clear hHeld hcut hX2
  go_wp2_with fail
  have hNe := hNN.out
  rw [← hNe]
  clear hNe
  refine hEQ.out.mono ?_
  rintro e w' ⟨rfl, rfl⟩
  go_wp2_with fail
  go_ret
  exact ⟨rfl, hB5⟩

/-- Code words are right; and nothing else is. -/
theorem right_yes {w : World} {K M N c cS : Nat} {S : Option Addr} {P : Mx} (hS : MatAt w S N c P) (hN : N = K + M) (hK : 1 ≤ K) (hKM : K + M ≤ 255) (hc : 0 < c) (hc2 : c ≤ 1000) (hcS : N ≤ cS) (hF : FoldAt w)
    (h : EqM N c (mulM K (genM K) P) P) : Calls Tryd.prog 45 #[.agg #[.int .i64 (K : Int), .int .i64 (M : Int)], .slice S N cS] w (RetV w (.bool true)) := by
  have := right_calls hS hN hK hKM hc hc2 hcS hF
  rwa [decide_eq_true (rowsL_congr h)] at this
theorem right_no {w : World} {K M N c cS : Nat} {S : Option Addr} {P : Mx} (hS : MatAt w S N c P) (hN : N = K + M) (hK : 1 ≤ K) (hKM : K + M ≤ 255) (hc : 0 < c) (hc2 : c ≤ 1000) (hcS : N ≤ cS) (hF : FoldAt w)
    (h : ¬ EqM N c (mulM K (genM K) P) P) : Calls Tryd.prog 45 #[.agg #[.int .i64 (K : Int), .int .i64 (M : Int)], .slice S N cS] w (RetV w (.bool false)) := by
  have := right_calls hS hN hK hKM hc hc2 hcS hF
  rwa [decide_eq_false (fun he => h (rowsL_inj he))] at this

end Go.Proofs.YtibidlgikecelaaDoor
