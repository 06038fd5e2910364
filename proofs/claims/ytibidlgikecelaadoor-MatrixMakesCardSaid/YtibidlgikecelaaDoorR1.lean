/- Contracts: reed.times and what it calls. -/
import Derived.Test.YtibidlgikecelaaDoorW14
namespace Go.Proofs.YtibidlgikecelaaDoor
open Go.RowKit
set_option linter.unusedVariables false
set_option linter.unusedSimpArgs false

/-- A call answers a row of its own. -/
def RetRow (w : World) (c : Nat) (f : Nat → B8) (e : Ending) (w' : World) : Prop :=
  ∃ b, e = .returned (.slice (some ⟨b, 0, none⟩) c c) ∧ RowB w' b (rowL c f) ∧ w.heap.size ≤ b ∧ Below w.heap.size w w'
/-- A row's sum so far. -/
def sumAt (f : Nat → B8) (D : Mx) (k : Nat) : Nat → B8 := fun j => xs k fun l => gm (f l) (D l j)
theorem sumAt_zero (f : Nat → B8) (D : Mx) : sumAt f D 0 = fun _ => 0#8 := rfl
theorem sumAt_step (f : Nat → B8) (D : Mx) (k c : Nat) : rowL c (addAt c (sumAt f D k) (D k) (f k)) = rowL c (sumAt f D (k + 1)) := by
  rw [addAt_end]
  refine rowL_congr fun j _ => ?_
  unfold addR sumAt
  rw [gm_comm]
  rfl

set_option maxHeartbeats 800000 in
set_option maxRecDepth 100000 in
theorem times1_calls {w : World} {tb bS oS K c cS cX : Nat} {X : Option Addr} {vS : List Value} {D : Mx} {f : Nat → B8} (hbox : w.cell? ⟨tb, 0, none⟩ = some (.slice (some ⟨bS, oS, none⟩) K cS))
    (hS : At w (some ⟨bS, oS, none⟩) vS) (hLS : Texts w vS (rowsL K c D)) (hX : At w X (bys (rowL K f))) (hK : 0 < K) (hK2 : K ≤ 255) (hc : c ≤ 1000000) (hF : FoldAt w) :
    Calls Tryd.prog 94 #[.slice X K cX, .pointer (some ⟨tb, 0, none⟩)] w (RetRow w c (sumAt f D K)) := by
  have hKi : (0 : Int) < (K : Int) := by omega
  obtain ⟨S0, cS0, hS0, _, _, _⟩ := row_head hS hLS hK
  rw [Nat.add_zero] at hS0
  obtain ⟨bx, ox, rfl⟩ := some_of_at hX (by simpa using hK)
  have hbS := hS.lt (by rw [hLS.1]; simpa using hK) bS oS rfl
  have hbx := hX.lt (by simpa using hK) bx ox rfl
  go_enter Tryd.func94, Tryd.ntmps94
  go_wp2_with (refine make_row rfl (.tmp 12) (.tmp 12) rfl c rfl rfl rfl rfl (by omega) ?_; intro w1 hr1 hb1 hs1)
  have HR := Lib.hid hr1
  have hz1 := hb1.size
  clear hr1
  go_loopw [16] (fun s wr => ∃ k : Nat, k ≤ K ∧ s = .int .i64 ((k : Nat) : Int) ∧ RowB wr w.heap.size (rowL c (sumAt f D k)) ∧ Below w.heap.size w wr) (fun s _ => K - (intOf s).toNat)
  case atStart => exact ⟨0, by omega, rfl, by rw [sumAt_zero]; exact HR.out, hb1⟩
  case round =>
    obtain ⟨k, hk, rfl, hRr, hBr⟩ := hrel
    rename World => wk
    by_cases hkK : k < K
    · have hkk : (k : Int) < (K : Int) := by omega
      obtain ⟨_, _, he, hcx⟩ := row_byte hX hkK
      cases he
      have hcxw := (hBr.cell (p := ⟨bx, ox + k, none⟩) hbx).trans hcx
      have hbox1 := (hBr.cell (p := ⟨tb, 0, none⟩) (block_lt hbox)).trans hbox
      obtain ⟨Y, cY, hcs, hY, _, _⟩ := row_head hS hLS hkK
      have hcsw := (hBr.cell (p := ⟨bS, oS + k, none⟩) hbS).trans hcs
      have HE := Lib.hid (sumAt_step f D k c)
      generalize hf0 : sumAt f D k = f0 at *
      have hx : f k = f k := rfl
      generalize f k = x at *
      clear hcx hcs hx
      go_wp2_with fail
      go_loopw [26] (fun s wr => ∃ i : Nat, i ≤ c ∧ s = .int .i64 ((i : Nat) : Int) ∧ RowB wr w.heap.size (rowL c (addAt i f0 (D k) x)) ∧ Below w.heap.size w wr) (fun s _ => c - (intOf s).toNat)
      case atStart => exact ⟨0, by omega, rfl, by rw [addAt_zero]; exact hRr, hBr⟩
      case round =>
        obtain ⟨i, hi, rfl, hR, hB⟩ := hrel
        clear hRr hBr hcxw hbox1 hcsw
        by_cases hic : i < c
        · have hii : (i : Int) < (c : Int) := by omega
          have hcT := hR.cell (rowL_get (f := addAt i f0 (D k) x) hic)
          rw [addAt_at] at hcT
          have hfz := hR.frozen i
          obtain ⟨by1, oy, rfl, hcy⟩ := row_byte hY hic
          have hcyw := (hB.cell (p := ⟨by1, oy + i, none⟩) (block_lt hcy)).trans hcy
          have hFw := FoldAt.below hF hB
          have hS1 := Lib.hid (addAt_step i f0 (D k) x)
          have hRR0 := rowL_set c (addAt i f0 (D k) x) i (f0 i ^^^ gm (D k i) x)
          rw [hS1.out, gm_comm] at hRR0
          have hRR := Lib.hid hRR0
          clear hRR0 hcy
          generalize hf1 : addAt (i + 1) f0 (D k) x = f1 at *
          have HF1 := Lib.hid hf1
          clear hf1
          generalize addAt i f0 (D k) x = f2 at *
          generalize f0 i = y at *
          generalize D k i = z at *
          go_wp2_with fail
          have hcTD : wr.drew.cell? ⟨w.heap.size, i, none⟩ = some (.int .u8 (y.toNat : Int)) := hcT
          have hFD : FoldAt wr.drew := hFw
          have hRD : RowB wr.drew w.heap.size (rowL c f2) := hR
          have hBD : Below w.heap.size w wr.drew := hB.trans ((belowN 1 : Below wr.heap.size wr (wr.drewN 1)).mono hB.size)
          refine wp_region_held_drew (S := fun _ => True) (by kernel_rfl) trivial (fun _ => ?_)
          generalize wr.drew = WD at *
          clear hcT hcyw hR hB hfz hFw
          refine wpAnyH_take (i := 0) (v := ?_) rfl (by kernel_rfl) (by kernel_rfl) (by kernel_rfl) (fun _ _ _ h => h) (Or.inl ⟨by rfl, ?_⟩) (by assumption) ?_; rotate_left; (intro w hSw; (try dsimp only at hSw); go_simp; (first | done | (with_reducible rfl))); (try simp only [List.getElem_toArray, List.getElem_cons_succ, List.getElem_cons_zero, Act.put, List.setIfInBounds_toArray, List.set_cons_zero, List.set_cons_succ])
          refine wpAnyH_take (i := 1) (v := ?_) rfl (by kernel_rfl) (by kernel_rfl) (by kernel_rfl) (fun _ _ _ h => h) (Or.inl ⟨by rfl, ?_⟩) (by assumption) ?_; rotate_left; (intro w hSw; (try dsimp only at hSw); go_simp; (first | done | (with_reducible rfl))); (try simp only [List.getElem_toArray, List.getElem_cons_succ, List.getElem_cons_zero, Act.put, List.setIfInBounds_toArray, List.set_cons_zero, List.set_cons_succ])
          refine wpAnyH_take (i := 2) (v := ?_) rfl (by kernel_rfl) (by kernel_rfl) (by kernel_rfl) (fun _ _ _ h => h) (Or.inl ⟨by rfl, ?_⟩) (by assumption) ?_; rotate_left; (intro w hSw; (try dsimp only at hSw); go_simp; (first | done | (with_reducible rfl))); (try simp only [List.getElem_toArray, List.getElem_cons_succ, List.getElem_cons_zero, Act.put, List.setIfInBounds_toArray, List.set_cons_zero, List.set_cons_succ])
          refine wpAnyH_take (i := 3) (v := ?_) rfl (by kernel_rfl) (by kernel_rfl) (by kernel_rfl) (fun _ _ _ h => h) (Or.inl ⟨by rfl, ?_⟩) (by assumption) ?_; rotate_left; (intro w hSw; (try dsimp only at hSw); go_simp; (first | done | (with_reducible rfl))); (try simp only [List.getElem_toArray, List.getElem_cons_succ, List.getElem_cons_zero, Act.put, List.setIfInBounds_toArray, List.set_cons_zero, List.set_cons_succ])
          refine wpAnyH_take (i := 6) (v := ?_) rfl (by kernel_rfl) (by kernel_rfl) (by kernel_rfl) (fun _ _ _ h => h) (Or.inl ⟨by rfl, ?_⟩) (by assumption) ?_; rotate_left; (intro w hSw; (try dsimp only at hSw); go_simp; (first | done | (with_reducible rfl))); (try simp only [List.getElem_toArray, List.getElem_cons_succ, List.getElem_cons_zero, Act.put, List.setIfInBounds_toArray, List.set_cons_zero, List.set_cons_succ])
          refine wpAnyH_take (i := 7) (v := ?_) rfl (by kernel_rfl) (by kernel_rfl) (by kernel_rfl) (fun _ _ _ h => h) (Or.inl ⟨by rfl, ?_⟩) (by assumption) ?_; rotate_left; (intro w hSw; (try dsimp only at hSw); go_simp; (first | done | (with_reducible rfl))); (try simp only [List.getElem_toArray, List.getElem_cons_succ, List.getElem_cons_zero, Act.put, List.setIfInBounds_toArray, List.set_cons_zero, List.set_cons_succ])
          refine wpAnyH_take (i := 4) (v := ?_) rfl (by kernel_rfl) (by kernel_rfl) (by kernel_rfl) (fun _ _ _ h => h) (Or.inl ⟨by rfl, ?_⟩) (by assumption) ?_; rotate_left; (intro w hSw; (try dsimp only at hSw); go_simp; (first | done | (with_reducible rfl))); (try simp only [List.getElem_toArray, List.getElem_cons_succ, List.getElem_cons_zero, Act.put, List.setIfInBounds_toArray, List.set_cons_zero, List.set_cons_succ])
          refine wpAnyH_ready (rs := [5, 8]) (by kernel_rfl) (by simp) ?_
          refine AllReadyH.cons rfl (fun K hK => ?_) (AllReadyH.cons rfl (fun K hK => ?_) AllReadyH.nil)
          · go_simp
            go_wp2_with fail
            refine hK.out _ _ trivial (fun _ => ?_); clear hK K; (try simp only [List.getElem_toArray, List.getElem_cons_succ, List.getElem_cons_zero, Act.put, List.setIfInBounds_toArray, List.set_cons_zero, List.set_cons_succ])
            refine wpAnyH_ready (rs := [8]) (by kernel_rfl) (by simp) ?_; refine AllReadyH.cons rfl (fun K hK => ?_) AllReadyH.nil
            go_simp
            refine (mul_calls x z hFD).mono ?_
            rintro e w1 ⟨rfl, hb1⟩
            go_wp2_with fail
            refine hK.out _ _ trivial (fun _ => ?_); clear hK K; (try simp only [List.getElem_toArray, List.getElem_cons_succ, List.getElem_cons_zero, Act.put, List.setIfInBounds_toArray, List.set_cons_zero, List.set_cons_succ])
            refine wpAnyH_ready (rs := [9]) (by kernel_rfl) (by simp) ?_; refine AllReadyH.cons rfl (fun K hK => ?_) AllReadyH.nil
            go_simp
            refine (add_calls _ _).mono ?_
            rintro e w2 ⟨rfl, rfl⟩
            go_wp2_with fail
            refine hK.out _ _ trivial (fun _ => ?_); clear hK K; (try simp only [List.getElem_toArray, List.getElem_cons_succ, List.getElem_cons_zero, Act.put, List.setIfInBounds_toArray, List.set_cons_zero, List.set_cons_succ])
            refine wpAnyH_take (i := 10) (v := ?_) rfl (by kernel_rfl) (by kernel_rfl) (by kernel_rfl) (fun _ _ _ h => h) (Or.inl ⟨by rfl, ?_⟩) (by assumption) ?_; rotate_left; (intro w hSw; (try dsimp only at hSw); go_simp; (first | done | (with_reducible rfl))); (try simp only [List.getElem_toArray, List.getElem_cons_succ, List.getElem_cons_zero, Act.put, List.setIfInBounds_toArray, List.set_cons_zero, List.set_cons_succ])
            have hR1 := hRD.below hb1 hRD.lt
            have hcs := hR1.cell (rowL_get (f := f2) hic)
            have hfs := hR1.frozen i
            refine wpAnyH_ready (rs := [11]) (by kernel_rfl) (by simp) ?_; refine AllReadyH.cons rfl (fun K hK => ?_) AllReadyH.nil
            go_simp
            go_wp2_with fail
            refine hK.out _ _ trivial (fun _ => ?_); clear hK K; (try simp only [List.getElem_toArray, List.getElem_cons_succ, List.getElem_cons_zero, Act.put, List.setIfInBounds_toArray, List.set_cons_zero, List.set_cons_succ])
            refine wpAnyH_done (by kernel_rfl) ?_ _
            go_wp2_with fail
            have hst := hR1.set i (y ^^^ gm x z)
            rw [hRR.out, bv_xor] at hst
            exact ⟨⟨i + 1, by omega, by go_num, by rw [HF1.out]; exact hst, (hBD.trans (hb1.mono hBD.size)).setCell (Nat.le_refl _) _⟩, by simp [intOf]; omega⟩
          · go_simp
            refine (mul_calls x z hFD).mono ?_
            rintro e w1 ⟨rfl, hb1⟩
            go_wp2_with fail
            refine hK.out _ _ trivial (fun _ => ?_); clear hK K; (try simp only [List.getElem_toArray, List.getElem_cons_succ, List.getElem_cons_zero, Act.put, List.setIfInBounds_toArray, List.set_cons_zero, List.set_cons_succ])
            have hc1 := (hb1.cell (p := ⟨w.heap.size, i, none⟩) hRD.lt).trans hcTD
            refine wpAnyH_ready (rs := [5]) (by kernel_rfl) (by simp) ?_; refine AllReadyH.cons rfl (fun K hK => ?_) AllReadyH.nil
            go_simp
            go_wp2_with fail
            refine hK.out _ _ trivial (fun _ => ?_); clear hK K; (try simp only [List.getElem_toArray, List.getElem_cons_succ, List.getElem_cons_zero, Act.put, List.setIfInBounds_toArray, List.set_cons_zero, List.set_cons_succ])
            refine wpAnyH_ready (rs := [9]) (by kernel_rfl) (by simp) ?_; refine AllReadyH.cons rfl (fun K hK => ?_) AllReadyH.nil
            go_simp
            refine (add_calls _ _).mono ?_
            rintro e w2 ⟨rfl, rfl⟩
            go_wp2_with fail
            refine hK.out _ _ trivial (fun _ => ?_); clear hK K; (try simp only [List.getElem_toArray, List.getElem_cons_succ, List.getElem_cons_zero, Act.put, List.setIfInBounds_toArray, List.set_cons_zero, List.set_cons_succ])
            refine wpAnyH_take (i := 10) (v := ?_) rfl (by kernel_rfl) (by kernel_rfl) (by kernel_rfl) (fun _ _ _ h => h) (Or.inl ⟨by rfl, ?_⟩) (by assumption) ?_; rotate_left; (intro w hSw; (try dsimp only at hSw); go_simp; (first | done | (with_reducible rfl))); (try simp only [List.getElem_toArray, List.getElem_cons_succ, List.getElem_cons_zero, Act.put, List.setIfInBounds_toArray, List.set_cons_zero, List.set_cons_succ])
            have hR1 := hRD.below hb1 hRD.lt
            have hcs := hR1.cell (rowL_get (f := f2) hic)
            have hfs := hR1.frozen i
            refine wpAnyH_ready (rs := [11]) (by kernel_rfl) (by simp) ?_; refine AllReadyH.cons rfl (fun K hK => ?_) AllReadyH.nil
            go_simp
            go_wp2_with fail
            refine hK.out _ _ trivial (fun _ => ?_); clear hK K; (try simp only [List.getElem_toArray, List.getElem_cons_succ, List.getElem_cons_zero, Act.put, List.setIfInBounds_toArray, List.set_cons_zero, List.set_cons_succ])
            refine wpAnyH_done (by kernel_rfl) ?_ _
            go_wp2_with fail
            have hst := hR1.set i (y ^^^ gm x z)
            rw [hRR.out, bv_xor] at hst
            exact ⟨⟨i + 1, by omega, by go_num, by rw [HF1.out]; exact hst, (hBD.trans (hb1.mono hBD.size)).setCell (Nat.le_refl _) _⟩, by simp [intOf]; omega⟩
        · obtain rfl : c = i := by omega
          rw [HE.out] at hR
          go_wp2_with fail
          exact ⟨⟨k + 1, by omega, by go_num, hR, hB⟩, by simp [intOf]; omega⟩
    · obtain rfl : K = k := by omega
      go_wp2_with fail
      go_ret
      exact ⟨w.heap.size, rfl, hRr, Nat.le_refl _, hBr⟩

end Go.Proofs.YtibidlgikecelaaDoor
