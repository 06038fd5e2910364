/- Contracts: reed.times and what it calls. Contracts: reed.each over rows, reed.times, reed.Can, reed.Encode. Contracts: IndexFunc and ContainsFunc where nothing is found, reed.Encode. -/
import Derived.Test.YtibidlgikecelaaDoorW14
import Derived.Test.YtibidlgikecelaaDoorW20
namespace Go.Proofs.YtibidlgikecelaaDoor
open Go.RowKit
set_option linter.unusedVariables false
set_option linter.unusedSimpArgs false

/-- A call answers a row of its own. -/
def RetRow (w : World) (c : Nat) (f : Nat → B8) (e : Ending) (w' : World) : Prop :=
  ∃ b, e = .returned (.slice (some ⟨b, 0, none⟩) c c) ∧ RowB w' b (rowL c f) ∧ w.heap.size ≤ b ∧ Below w.heap.size w w'
/-- A row's sum so far. -/
def sumAt (f : Nat → B8) (D : Mx) (k : Nat) : Nat → B8 := fun j => xs k fun l => gm (f l) (D l j)
theorem sumAt_zero (f : Nat → B8) (D : Mx) : sumAt f D 0 = fun _ => 0#8 := rfl
theorem sumAt_step (f : Nat → B8) (D : Mx) (k c : Nat) : rowL c (addAt c (sumAt f D k) (D k) (f k)) = rowL c (sumAt f D (k + 1)) := by
  rw [addAt_end]
  refine rowL_congr fun j _ => ?_
  unfold addR sumAt
  rw [gm_comm]
  rfl

set_option maxHeartbeats 800000 in
set_option maxRecDepth 100000 in
theorem times1_calls {w : World} {tb bS oS K c cS cX : Nat} {X : Option Addr} {vS : List Value} {D : Mx} {f : Nat → B8} (hbox : w.cell? ⟨tb, 0, none⟩ = some (.slice (some ⟨bS, oS, none⟩) K cS))
    (hS : At w (some ⟨bS, oS, none⟩) vS) (hLS : Texts w vS (rowsL K c D)) (hX : At w X (bys (rowL K f))) (hK : 0 < K) (hK2 : K ≤ 255) (hc : c ≤ 1000000) (hF : FoldAt w) :
    Calls Tryd.prog 94 #[.slice X K cX, .pointer (some ⟨tb, 0, none⟩)] w (RetRow w c (sumAt f D K)) := by
  have hKi : (0 : Int) < (K : Int) := by omega
  obtain ⟨S0, cS0, hS0, _, _, _⟩ := row_head hS hLS hK
  rw [Nat.add_zero] at hS0
  obtain ⟨bx, ox, rfl⟩ := some_of_at hX (by simpa using hK)
  have hbS := hS.lt (by rw [hLS.1]; simpa using hK) bS oS rfl
  have hbx := hX.lt (by simpa using hK) bx ox rfl
  go_enter Tryd.func94, Tryd.ntmps94
  go_wp2_with (refine make_row rfl (.tmp 12) (.tmp 12) rfl c rfl rfl rfl rfl (by omega) ?_; intro w1 hr1 hb1 hs1)
  have HR := Lib.hid hr1
  have hz1 := hb1.size
  clear hr1
  go_loopw [16] (fun s wr => ∃ k : Nat, k ≤ K ∧ s = .int .i64 ((k : Nat) : Int) ∧ RowB wr w.heap.size (rowL c (sumAt f D k)) ∧ Below w.heap.size w wr) (fun s _ => K - (intOf s).toNat)
  case atStart => exact ⟨0, by omega, rfl, by rw [sumAt_zero]; exact HR.out, hb1⟩
  case round =>
    obtain ⟨k, hk, rfl, hRr, hBr⟩ := hrel
    rename World => wk
    by_cases hkK : k < K
    · have hkk : (k : Int) < (K : Int) := by omega
      obtain ⟨_, _, he, hcx⟩ := row_byte hX hkK
      cases he
      have hcxw := (hBr.cell (p := ⟨bx, ox + k, none⟩) hbx).trans hcx
      have hbox1 := (hBr.cell (p := ⟨tb, 0, none⟩) (block_lt hbox)).trans hbox
      obtain ⟨Y, cY, hcs, hY, _, _⟩ := row_head hS hLS hkK
      have hcsw := (hBr.cell (p := ⟨bS, oS + k, none⟩) hbS).trans hcs
      have HE := Lib.hid (sumAt_step f D k c)
      generalize hf0 : sumAt f D k = f0 at *
      have hx : f k = f k := rfl
      generalize f k = x at *
      clear hcx hcs hx
      go_wp2_with fail
      go_loopw [26] (fun s wr => ∃ i : Nat, i ≤ c ∧ s = .int .i64 ((i : Nat) : Int) ∧ RowB wr w.heap.size (rowL c (addAt i f0 (D k) x)) ∧ Below w.heap.size w wr) (fun s _ => c - (intOf s).toNat)
      case atStart => exact ⟨0, by omega, rfl, by rw [addAt_zero]; exact hRr, hBr⟩
      case round =>
        obtain ⟨i, hi, rfl, hR, hB⟩ := hrel
        clear hRr hBr hcxw hbox1 hcsw
        by_cases hic : i < c
        · have hii : (i : Int) < (c : Int) := by omega
          have hcT := hR.cell (rowL_get (f := addAt i f0 (D k) x) hic)
          rw [addAt_at] at hcT
          have hfz := hR.frozen i
          obtain ⟨by1, oy, rfl, hcy⟩ := row_byte hY hic
          have hcyw := (hB.cell (p := ⟨by1, oy + i, none⟩) (block_lt hcy)).trans hcy
          have hFw := FoldAt.below hF hB
          have hS1 := Lib.hid (addAt_step i f0 (D k) x)
          have hRR0 := rowL_set c (addAt i f0 (D k) x) i (f0 i ^^^ gm (D k i) x)
          rw [hS1.out, gm_comm] at hRR0
          have hRR := Lib.hid hRR0
          clear hRR0 hcy
          generalize hf1 : addAt (i + 1) f0 (D k) x = f1 at *
          have HF1 := Lib.hid hf1
          clear hf1
          generalize addAt i f0 (D k) x = f2 at *
          generalize f0 i = y at *
          generalize D k i = z at *
          go_wp2_with fail
          have hcTD : wr.drew.cell? ⟨w.heap.size, i, none⟩ = some (.int .u8 (y.toNat : Int)) := hcT
          have hFD : FoldAt wr.drew := hFw
          have hRD : RowB wr.drew w.heap.size (rowL c f2) := hR
          have hBD : Below w.heap.size w wr.drew := hB.trans ((belowN 1 : Below wr.heap.size wr (wr.drewN 1)).mono hB.size)
          refine wp_region_held_drew (S := fun _ => True) (by kernel_rfl) trivial (fun _ => ?_)
          generalize wr.drew = WD at *
          clear hcT hcyw hR hB hfz hFw
          refine wpAnyH_take (i := 0) (v := ?_) rfl (by kernel_rfl) (by kernel_rfl) (by kernel_rfl) (fun _ _ _ h => h) (Or.inl ⟨by rfl, ?_⟩) (by assumption) ?_; rotate_left; (intro w hSw; (try dsimp only at hSw); go_simp; (first | done | (with_reducible rfl))); (try simp only [List.getElem_toArray, List.getElem_cons_succ, List.getElem_cons_zero, Act.put, List.setIfInBounds_toArray, List.set_cons_zero, List.set_cons_succ])
          refine wpAnyH_take (i := 1) (v := ?_) rfl (by kernel_rfl) (by kernel_rfl) (by kernel_rfl) (fun _ _ _ h => h) (Or.inl ⟨by rfl, ?_⟩) (by assumption) ?_; rotate_left; (intro w hSw; (try dsimp only at hSw); go_simp; (first | done | (with_reducible rfl))); (try simp only [List.getElem_toArray, List.getElem_cons_succ, List.getElem_cons_zero, Act.put, List.setIfInBounds_toArray, List.set_cons_zero, List.set_cons_succ])
          refine wpAnyH_take (i := 2) (v := ?_) rfl (by kernel_rfl) (by kernel_rfl) (by kernel_rfl) (fun _ _ _ h => h) (Or.inl ⟨by rfl, ?_⟩) (by assumption) ?_; rotate_left; (intro w hSw; (try dsimp only at hSw); go_simp; (first | done | (with_reducible rfl))); (try simp only [List.getElem_toArray, List.getElem_cons_succ, List.getElem_cons_zero, Act.put, List.setIfInBounds_toArray, List.set_cons_zero, List.set_cons_succ])
          refine wpAnyH_take (i := 3) (v := ?_) rfl (by kernel_rfl) (by kernel_rfl) (by kernel_rfl) (fun _ _ _ h => h) (Or.inl ⟨by rfl, ?_⟩) (by assumption) ?_; rotate_left; (intro w hSw; (try dsimp only at hSw); go_simp; (first | done | (with_reducible rfl))); (try simp only [List.getElem_toArray, List.getElem_cons_succ, List.getElem_cons_zero, Act.put, List.setIfInBounds_toArray, List.set_cons_zero, List.set_cons_succ])
          refine wpAnyH_take (i := 6) (v := ?_) rfl (by kernel_rfl) (by kernel_rfl) (by kernel_rfl) (fun _ _ _ h => h) (Or.inl ⟨by rfl, ?_⟩) (by assumption) ?_; rotate_left; (intro w hSw; (try dsimp only at hSw); go_simp; (first | done | (with_reducible rfl))); (try simp only [List.getElem_toArray, List.getElem_cons_succ, List.getElem_cons_zero, Act.put, List.setIfInBounds_toArray, List.set_cons_zero, List.set_cons_succ])
          refine wpAnyH_take (i := 7) (v := ?_) rfl (by kernel_rfl) (by kernel_rfl) (by kernel_rfl) (fun _ _ _ h => h) (Or.inl ⟨by rfl, ?_⟩) (by assumption) ?_; rotate_left; (intro w hSw; (try dsimp only at hSw); go_simp; (first | done | (with_reducible rfl))); (try simp only [List.getElem_toArray, List.getElem_cons_succ, List.getElem_cons_zero, Act.put, List.setIfInBounds_toArray, List.set_cons_zero, List.set_cons_succ])
          refine wpAnyH_take (i := 4) (v := ?_) rfl (by kernel_rfl) (by kernel_rfl) (by kernel_rfl) (fun _ _ _ h => h) (Or.inl ⟨by rfl, ?_⟩) (by assumption) ?_; rotate_left; (intro w hSw; (try dsimp only at hSw); go_simp; (first | done | (with_reducible rfl))); (try simp only [List.getElem_toArray, List.getElem_cons_succ, List.getElem_cons_zero, Act.put, List.setIfInBounds_toArray, List.set_cons_zero, List.set_cons_succ])
          refine wpAnyH_ready (rs := [5, 8]) (by kernel_rfl) (by simp) ?_
          refine AllReadyH.cons rfl (fun K hK => ?_) (AllReadyH.cons rfl (fun K hK => ?_) AllReadyH.nil)
          · go_simp
            go_wp2_with fail
            refine hK.out _ _ trivial (fun _ => ?_); clear hK K; (try simp only [List.getElem_toArray, List.getElem_cons_succ, List.getElem_cons_zero, Act.put, List.setIfInBounds_toArray, List.set_cons_zero, List.set_cons_succ])
            refine wpAnyH_ready (rs := [8]) (by kernel_rfl) (by simp) ?_; refine AllReadyH.cons rfl (fun K hK => ?_) AllReadyH.nil
            go_simp
            refine (mul_calls x z hFD).mono ?_
            rintro e w1 ⟨rfl, hb1⟩
            go_wp2_with fail
            refine hK.out _ _ trivial (fun _ => ?_); clear hK K; (try simp only [List.getElem_toArray, List.getElem_cons_succ, List.getElem_cons_zero, Act.put, List.setIfInBounds_toArray, List.set_cons_zero, List.set_cons_succ])
            refine wpAnyH_ready (rs := [9]) (by kernel_rfl) (by simp) ?_; refine AllReadyH.cons rfl (fun K hK => ?_) AllReadyH.nil
            go_simp
            refine (add_calls _ _).mono ?_
            rintro e w2 ⟨rfl, rfl⟩
            go_wp2_with fail
            refine hK.out _ _ trivial (fun _ => ?_); clear hK K; (try simp only [List.getElem_toArray, List.getElem_cons_succ, List.getElem_cons_zero, Act.put, List.setIfInBounds_toArray, List.set_cons_zero, List.set_cons_succ])
            refine wpAnyH_take (i := 10) (v := ?_) rfl (by kernel_rfl) (by kernel_rfl) (by kernel_rfl) (fun _ _ _ h => h) (Or.inl ⟨by rfl, ?_⟩) (by assumption) ?_; rotate_left; (intro w hSw; (try dsimp only at hSw); go_simp; (first | done | (with_reducible rfl))); (try simp only [List.getElem_toArray, List.getElem_cons_succ, List.getElem_cons_zero, Act.put, List.setIfInBounds_toArray, List.set_cons_zero, List.set_cons_succ])
            have hR1 := hRD.below hb1 hRD.lt
            have hcs := hR1.cell (rowL_get (f := f2) hic)
            have hfs := hR1.frozen i
            refine wpAnyH_ready (rs := [11]) (by kernel_rfl) (by simp) ?_; refine AllReadyH.cons rfl (fun K hK => ?_) AllReadyH.nil
            go_simp
            go_wp2_with fail
            refine hK.out _ _ trivial (fun _ => ?_); clear hK K; (try simp only [List.getElem_toArray, List.getElem_cons_succ, List.getElem_cons_zero, Act.put, List.setIfInBounds_toArray, List.set_cons_zero, List.set_cons_succ])
            refine wpAnyH_done (by kernel_rfl) ?_ _
            go_wp2_with fail
            have hst := hR1.set i (y ^^^ gm x z)
            rw [hRR.out, bv_xor] at hst
            exact ⟨⟨i + 1, by omega, by go_num, by rw [HF1.out]; exact hst, (hBD.trans (hb1.mono hBD.size)).setCell (Nat.le_refl _) _⟩, by simp [intOf]; omega⟩
          · go_simp
            refine (mul_calls x z hFD).mono ?_
            rintro e w1 ⟨rfl, hb1⟩
            go_wp2_with fail
            refine hK.out _ _ trivial (fun _ => ?_); clear hK K; (try simp only [List.getElem_toArray, List.getElem_cons_succ, List.getElem_cons_zero, Act.put, List.setIfInBounds_toArray, List.set_cons_zero, List.set_cons_succ])
            have hc1 := (hb1.cell (p := ⟨w.heap.size, i, none⟩) hRD.lt).trans hcTD
            refine wpAnyH_ready (rs := [5]) (by kernel_rfl) (by simp) ?_; refine AllReadyH.cons rfl (fun K hK => ?_) AllReadyH.nil
            go_simp
            go_wp2_with fail
            refine hK.out _ _ trivial (fun _ => ?_); clear hK K; (try simp only [List.getElem_toArray, List.getElem_cons_succ, List.getElem_cons_zero, Act.put, List.setIfInBounds_toArray, List.set_cons_zero, List.set_cons_succ])
            refine wpAnyH_ready (rs := [9]) (by kernel_rfl) (by simp) ?_; refine AllReadyH.cons rfl (fun K hK => ?_) AllReadyH.nil
            go_simp
            refine (add_calls _ _).mono ?_
            rintro e w2 ⟨rfl, rfl⟩
            go_wp2_with fail
            refine hK.out _ _ trivial (fun _ => ?_); clear hK K; (try simp only [List.getElem_toArray, List.getElem_cons_succ, List.getElem_cons_zero, Act.put, List.setIfInBounds_toArray, List.set_cons_zero, List.set_cons_succ])
            refine wpAnyH_take (i := 10) (v := ?_) rfl (by kernel_rfl) (by kernel_rfl) (by kernel_rfl) (fun _ _ _ h => h) (Or.inl ⟨by rfl, ?_⟩) (by assumption) ?_; rotate_left; (intro w hSw; (try dsimp only at hSw); go_simp; (first | done | (with_reducible rfl))); (try simp only [List.getElem_toArray, List.getElem_cons_succ, List.getElem_cons_zero, Act.put, List.setIfInBounds_toArray, List.set_cons_zero, List.set_cons_succ])
            have hR1 := hRD.below hb1 hRD.lt
            have hcs := hR1.cell (rowL_get (f := f2) hic)
            have hfs := hR1.frozen i
            refine wpAnyH_ready (rs := [11]) (by kernel_rfl) (by simp) ?_; refine AllReadyH.cons rfl (fun K hK => ?_) AllReadyH.nil
            go_simp
            go_wp2_with fail
            refine hK.out _ _ trivial (fun _ => ?_); clear hK K; (try simp only [List.getElem_toArray, List.getElem_cons_succ, List.getElem_cons_zero, Act.put, List.setIfInBounds_toArray, List.set_cons_zero, List.set_cons_succ])
            refine wpAnyH_done (by kernel_rfl) ?_ _
            go_wp2_with fail
            have hst := hR1.set i (y ^^^ gm x z)
            rw [hRR.out, bv_xor] at hst
            exact ⟨⟨i + 1, by omega, by go_num, by rw [HF1.out]; exact hst, (hBD.trans (hb1.mono hBD.size)).setCell (Nat.le_refl _) _⟩, by simp [intOf]; omega⟩
        · obtain rfl : c = i := by omega
          rw [HE.out] at hR
          go_wp2_with fail
          exact ⟨⟨k + 1, by omega, by go_num, hR, hB⟩, by simp [intOf]; omega⟩
    · obtain rfl : K = k := by omega
      go_wp2_with fail
      go_ret
      exact ⟨w.heap.size, rfl, hRr, Nat.le_refl _, hBr⟩

end Go.Proofs.YtibidlgikecelaaDoor

namespace Go.Proofs.YtibidlgikecelaaDoor
open Go.RowKit
set_option linter.unusedVariables false
set_option linter.unusedSimpArgs false

theorem mulM_row (n : Nat) (G D : Mx) (i : Nat) : mulM n G D i = sumAt (G i) D n := rfl

set_option maxHeartbeats 800000 in
set_option maxRecDepth 100000 in
theorem each_calls {w : World} {tb bS oS r K c cS cA : Nat} {A : Option Addr} {vA vS : List Value} {G D : Mx} (hbox : w.cell? ⟨tb, 0, none⟩ = some (.slice (some ⟨bS, oS, none⟩) K cS))
    (hS : At w (some ⟨bS, oS, none⟩) vS) (hLS : Texts w vS (rowsL K c D)) (hA : At w A vA) (hLA : Texts w vA (rowsL r K G)) (hK : 0 < K) (hK2 : K ≤ 255) (hc : c ≤ 1000000) (hr : r ≤ 1000) (hF : FoldAt w) :
    Calls Tryd.prog 93 #[.slice A r cA, .func (.func 94) #[] #[.pointer (some ⟨tb, 0, none⟩)]] w (RetS w r c (mulM K G D)) := by
  go_enter Tryd.func93, Tryd.ntmps93
  go_wp2_with fail
  go_loopw [5, 10] (fun s5 s wr => ∃ (i : Nat) (A' : Option Addr) (cap : Nat) (blk : Nat → Nat), i ≤ r ∧ s = .int .i64 ((i : Nat) : Int) ∧ s5 = .slice A' i cap ∧ OwnG wr w.heap.size A' cap blk i c (mulM K G D) ∧ Below w.heap.size w wr) (fun _ s _ => r - (intOf s).toNat)
  case atStart => exact ⟨0, none, 0, fun _ => 0, by omega, rfl, rfl, OwnG.nil _ _ _ _ _, Below.refl _ _⟩
  case round =>
    obtain ⟨i, A', cap, blk, hi, rfl, rfl, hG, hb⟩ := hrel
    rename World => w1
    by_cases hir : i < r
    · have hii : (i : Int) < (r : Int) := by omega
      obtain ⟨ba, oa, rfl, hba⟩ := heads_some hA hLA (by simp; omega)
      obtain ⟨X, cx, hca, hX, _, _⟩ := row_head hA hLA hir
      have hcaw := (hb.cell (p := ⟨ba, oa + i, none⟩) hba).trans hca
      have hbox1 := (hb.cell (p := ⟨tb, 0, none⟩) (block_lt hbox)).trans hbox
      have HT := Lib.hid (times1_calls (cX := cx) hbox1 (hS.below hb) (hLS.below hb) (hX.below hb) hK hK2 hc (FoldAt.below hF hb))
      rw [← mulM_row] at HT
      have HG := Lib.hid hG
      have hzb := hb.size
      clear hG hca hbox1
      go_wp2_with fail
      refine HT.out.mono ?_
      rintro e w2 ⟨rb, rfl, hR, hrb, hb2⟩
      have hb5 : Below w1.heap.size w1 (w2.alloc (.cells #[.slice (some ⟨rb, 0, none⟩) c c] 22)) := hb2.alloc hb2.size _
      have hG5 := HG.out.below hb5
      have hR5 := hR.below (below1' w2 (.cells #[.slice (some ⟨rb, 0, none⟩) c c] 22)) hR.lt
      have hne5 : ∀ t, t < i → blk t ≠ rb := fun t ht he => by have := (HG.out.row t ht).lt; omega
      have hz2 := hb2.size
      clear HT
      go_wp2_with (at_builtin; refine app_head rfl (.tmp 14) (.tmp 18) rfl w.heap.size rfl hG5.own rfl (news := [.slice (some ⟨rb, 0, none⟩) c c]) rfl (at_lit1 _ _ _) (by intro u hu; rw [List.mem_singleton] at hu; subst hu; rfl) (by simp) (by omega) (by simp; omega) ?_; intro A4 c4 w4 ho4 hb4 hg4 hc4)
      have hG6 := hG5.snoc (M := mulM K G D) hR5 (by omega) hne5 ho4 hg4 rfl
      exact ⟨⟨i + 1, A4, c4, _, by omega, by go_num, rfl, hG6, (hb.trans (hb5.mono hzb)).trans hb4⟩, by simp [intOf]; omega⟩
    · obtain rfl : r = i := by omega
      go_wp2_with fail
      go_ret
      exact ⟨_, _, _, rfl, hG, hb⟩

set_option maxHeartbeats 400000 in
theorem times_calls {w : World} {r K c cS cA : Nat} {A S : Option Addr} {G D : Mx} (hS : MatAt w S K c D) (hA : MatAt w A r K G) (hK : 0 < K) (hK2 : K ≤ 255) (hc : c ≤ 1000000) (hr : r ≤ 1000) (hF : FoldAt w) :
    Calls Tryd.prog 71 #[.slice A r cA, .slice S K cS] w (RetS w r c (mulM K G D)) := by
  obtain ⟨vS, hS1, hS2⟩ := hS
  obtain ⟨vA, hA1, hA2⟩ := hA
  obtain ⟨bS, oS, rfl⟩ := some_of_at hS1 (by rw [hS2.1]; simpa using hK)
  have hbw := below1' w (.cells #[.slice (some ⟨bS, oS, none⟩) K cS] 24)
  have HE := Lib.hid (each_calls (cA := cA) (box_cell w (.slice (some ⟨bS, oS, none⟩) K cS) 24) (hS1.below hbw) (hS2.below hbw) (hA1.below hbw) (hA2.below hbw) hK hK2 hc hr (FoldAt.below hF hbw))
  go_enter Tryd.func71, Tryd.ntmps71
  go_wp2_with fail
  refine HE.out.mono ?_
  rintro e w2 ⟨A', cap, blk, rfl, hG, hb⟩
  go_wp2_with fail
  go_ret
  exact ⟨A', cap, blk, rfl, hG.lower (by simp), hbw.trans (hb.mono hbw.size)⟩

/-- A code may be. -/
def canB (K M : Int) : Bool := decide (1 ≤ K) && decide (0 ≤ M) && decide (K ≤ 255) && decide (M ≤ 255 - K)
set_option maxHeartbeats 400000 in
theorem can_calls {w : World} {K M : Nat} (hK : 1 ≤ K) (hKM : K + M ≤ 255) : Calls Tryd.prog 35 #[.agg #[.int .i64 (K : Int), .int .i64 (M : Int)]] w (RetV w (.bool true)) := by
  have d1 : decide ((1 : Int) ≤ (K : Int)) = true := decide_eq_true (by omega)
  have d2 : decide ((0 : Int) ≤ (M : Int)) = true := decide_eq_true (by omega)
  have d3 : decide ((K : Int) ≤ (255 : Int)) = true := decide_eq_true (by omega)
  have d4 : decide ((M : Int) ≤ (255 : Int) - (K : Int)) = true := decide_eq_true (by omega)
  have hbw := below1' w (.cells #[.int .i64 (K : Int), .int .i64 (M : Int)] 38)
  have hk0 : (w.alloc (.cells #[.int .i64 (K : Int), .int .i64 (M : Int)] 38)).cell? ⟨w.heap.size, 0, none⟩ = some (.int .i64 (K : Int)) := cell_of_row _ _ 0 _ _ (0, 0) (heap_alloc_new w _)
  have hk1 : (w.alloc (.cells #[.int .i64 (K : Int), .int .i64 (M : Int)] 38)).cell? ⟨w.heap.size, 1, none⟩ = some (.int .i64 (M : Int)) := cell_of_row _ _ 1 _ _ (0, 0) (heap_alloc_new w _)
  go_enter Tryd.func35, Tryd.ntmps35
  go_wp2_with fail
  go_ret
  exact ⟨rfl, hbw⟩

end Go.Proofs.YtibidlgikecelaaDoor

namespace Go.Proofs.YtibidlgikecelaaDoor
open Go.RowKit
set_option linter.unusedVariables false
set_option linter.unusedSimpArgs false

set_option maxHeartbeats 400000 in
set_option maxRecDepth 100000 in
theorem enc1_idx {w : World} {A : Option Addr} {n c : Nat} {p : Value} {vs : List Value} (hA : At w A vs) (hn : n = vs.length) (hmax : n ≤ 1000000)
    (HF : ∀ (i : Nat) v, vs[i]? = some v → Calls Tryd.prog 70 #[v, p] w fun e w' => e = .returned (.bool false) ∧ w = w') :
    Calls Tryd.prog 63 #[.slice A n c, .func (.func 70) #[] #[p]] w fun e w' => e = .returned (.int .i64 (-1)) ∧ w = w' := by
  subst hn
  go_enter Tryd.func63, Tryd.ntmps63
  go_wp2_with fail
  go_loop [8] (fun s8 => ∃ j : Nat, j ≤ vs.length ∧ s8 = .int .i64 ((j : Nat) : Int)) (fun s8 => vs.length - (intOf s8).toNat)
  case atStart => exact ⟨0, by omega, rfl⟩
  case round =>
    obtain ⟨j, hj, rfl⟩ := hrel
    by_cases hjl : j < vs.length
    · obtain ⟨b', o', rfl, hc⟩ := hA j _ (List.getElem?_eq_getElem hjl)
      have hC := Lib.hid (HF j _ (List.getElem?_eq_getElem hjl))
      have hji : (j : Int) < (vs.length : Int) := by omega
      generalize vs[j] = v at *
      go_wp2_with fail
      refine hC.out.mono ?_
      rintro e w' ⟨rfl, rfl⟩
      go_wp2_with fail
      exact ⟨⟨j + 1, by omega, by go_num⟩, by simp [intOf]; omega⟩
    · obtain rfl : j = vs.length := by omega
      go_wp2_with fail
      go_ret
      exact ⟨rfl, rfl⟩

set_option maxHeartbeats 400000 in
set_option maxRecDepth 100000 in
theorem enc1_has {w : World} {A : Option Addr} {n c : Nat} {p : Value} {vs : List Value} (hA : At w A vs) (hn : n = vs.length) (hmax : n ≤ 1000000)
    (HF : ∀ (i : Nat) v, vs[i]? = some v → Calls Tryd.prog 70 #[v, p] w fun e w' => e = .returned (.bool false) ∧ w = w') :
    Calls Tryd.prog 69 #[.slice A n c, .func (.func 70) #[] #[p]] w fun e w' => e = .returned (.bool false) ∧ w = w' := by
  subst hn
  have HC0 := enc1_idx (c := c) hA rfl hmax HF
  obtain ⟨r, hr⟩ : ∃ r : Int, -1 = r := ⟨_, rfl⟩
  rw [hr] at HC0
  have HC := Lib.hid HC0
  have HR := Lib.hid hr
  clear HF HC0 hr
  go_enter Tryd.func69, Tryd.ntmps69
  go_wp2_with fail
  refine HC.out.mono ?_
  rintro e w' ⟨rfl, rfl⟩
  go_wp2_with fail
  go_ret
  refine ⟨ret_bool ?_, rfl⟩
  rw [← HR.out]
  rfl

set_option maxHeartbeats 400000 in
theorem enc1_calls {w : World} {g b off n c lx cx l0 c0 : Nat} {X A0 : Option Addr} (hg : w.cell? ⟨g, 0, none⟩ = some (.slice (some ⟨b, off, none⟩) n c)) (h0 : w.cell? ⟨b, off, none⟩ = some (.slice A0 l0 c0)) (hn : 0 < n) :
    Calls Tryd.prog 70 #[.slice X lx cx, .pointer (some ⟨g, 0, none⟩)] w fun e w' => e = .returned (.bool ((lx : Int) != (l0 : Int))) ∧ w = w' := by
  have hni : (0 : Int) < (n : Int) := by omega
  go_enter Tryd.func70, Tryd.ntmps70
  go_wp2_with fail
  go_ret
  exact ⟨rfl, rfl⟩

/-- A call answers rows of its own, and OK. -/
def RetO (w : World) (r c : Nat) (M : Mx) (e : Ending) (w' : World) : Prop :=
  ∃ A cap blk, e = .returned (.tuple #[.slice A r cap, .int .i64 0]) ∧ OwnG w' w.heap.size A cap blk r c M ∧ Below w.heap.size w w'

set_option maxHeartbeats 800000 in
set_option maxRecDepth 100000 in
theorem encode_calls {w : World} {K M c cS : Nat} {S : Option Addr} {D : Mx} (hS : MatAt w S K c D) (hK : 1 ≤ K) (hKM : K + M ≤ 255) (hc : 0 < c) (hc2 : c ≤ 1000000) (hF : FoldAt w) :
    Calls Tryd.prog 30 #[.agg #[.int .i64 (K : Int), .int .i64 (M : Int)], .slice S K cS] w (RetO w (K + M) c (mulM K (genM K) D)) := by
  obtain ⟨vS, hS1, hS2⟩ := hS
  obtain ⟨bS, oS, rfl⟩ := some_of_at hS1 (by rw [hS2.1]; simp; omega)
  obtain ⟨S0, cS0, hS0, _, _, _⟩ := row_head hS1 hS2 hK
  rw [Nat.add_zero] at hS0
  have hKi : (0 : Int) < (K : Int) := by omega
  have hKn : ((K : Int) != (K : Int)) = false := by simp
  have hcn : ((c : Int) == (0 : Int)) = false := by simp; omega
  have hb1 := below1' w (.cells #[.int .i64 (K : Int), .int .i64 (M : Int)] 38)
  have hk0 : (w.alloc (.cells #[.int .i64 (K : Int), .int .i64 (M : Int)] 38)).cell? ⟨w.heap.size, 0, none⟩ = some (.int .i64 (K : Int)) := cell_of_row _ _ 0 _ _ (0, 0) (heap_alloc_new w _)
  have hk1 : (w.alloc (.cells #[.int .i64 (K : Int), .int .i64 (M : Int)] 38)).cell? ⟨w.heap.size, 1, none⟩ = some (.int .i64 (M : Int)) := cell_of_row _ _ 1 _ _ (0, 0) (heap_alloc_new w _)
  have hs1 : (w.alloc (.cells #[.int .i64 (K : Int), .int .i64 (M : Int)] 38)).heap.size = w.heap.size + 1 := by simp
  go_enter Tryd.func30, Tryd.ntmps30
  go_wp2_with fail
  generalize w.alloc (.cells #[.int .i64 (K : Int), .int .i64 (M : Int)] 38) = wa at *
  have hb2 := below1' wa (.cells #[.slice (some ⟨bS, oS, none⟩) K cS] 24)
  have hbox := box_cell wa (.slice (some ⟨bS, oS, none⟩) K cS) 24
  have hk0b := (hb2.cell (p := ⟨w.heap.size, 0, none⟩) (by simp; omega)).trans hk0
  have hk1b := (hb2.cell (p := ⟨w.heap.size, 1, none⟩) (by simp; omega)).trans hk1
  have hB2 := hb1.trans (hb2.mono hb1.size)
  have hs2 : (wa.alloc (.cells #[.slice (some ⟨bS, oS, none⟩) K cS] 24)).heap.size = w.heap.size + 2 := by simp; omega
  rw [hs1] at hbox
  generalize wa.alloc (.cells #[.slice (some ⟨bS, oS, none⟩) K cS] 24) = wb at *
  clear hk0 hk1 hb1 hb2
  refine (can_calls hK hKM).mono ?_
  rintro e w3 ⟨rfl, hb3⟩
  have hB3 := hB2.trans (hb3.mono hB2.size)
  have hk03 := (hb3.cell (p := ⟨w.heap.size, 0, none⟩) (by simp; omega)).trans hk0b
  have hk13 := (hb3.cell (p := ⟨w.heap.size, 1, none⟩) (by simp; omega)).trans hk1b
  have hbox3 := (hb3.cell (p := ⟨w.heap.size + 1, 0, none⟩) (by simp; omega)).trans hbox
  have hS03 := (hB3.cell (p := ⟨bS, oS, none⟩) (block_lt hS0)).trans hS0
  have hz3 := hb3.size
  have hHas := Lib.hid (enc1_has (n := K) (c := cS) (p := .pointer (some ⟨w.heap.size + 1, 0, none⟩)) (hS1.below hB3) (by rw [hS2.1]; simp) (by omega) (fun i v hv => by
    have hi : i < K := by
      have := (List.getElem?_eq_some_iff.1 hv).1
      rw [hS2.1] at this
      simpa using this
    obtain ⟨X, cx, rfl, _⟩ := hS2.2 i v _ hv (rowsL_get hi)
    have h := enc1_calls (X := X) (cx := cx) (lx := (rowL c (D i)).length) hbox3 hS03 (by omega)
    rwa [show (((rowL c (D i)).length : Int) != (c : Int)) = false by simp] at h))
  have hvl : vS.length = K := by rw [hS2.1]; simp
  clear hk0b hk1b hbox hS0
  go_wp2_with fail
  refine hHas.out.mono ?_
  rintro e w' ⟨rfl, rfl⟩
  go_wp2_with fail
  refine (gener_calls hK hKM (FoldAt.below hF hB3)).mono ?_
  rintro e w4 ⟨g, blk, rfl, hG, hb4⟩
  have hB4 := hB3.trans (hb4.mono hB3.size)
  have hbox4 := (hb4.cell (p := ⟨w.heap.size + 1, 0, none⟩) (by simp; omega)).trans hbox3
  have HT := Lib.hid (times_calls (cS := cS) (cA := K + M) (show MatAt w4 (some ⟨bS, oS, none⟩) K c D from ⟨vS, hS1.below hB4, hS2.below hB4⟩) (hG.mat (by omega)) hK (by omega) hc2 (by omega) (FoldAt.below hF hB4))
  clear hHas hG
  go_wp2_with fail
  refine HT.out.mono ?_
  rintro e w5 ⟨A5, c5, b5, rfl, hG5, hb5⟩
  go_wp2_with fail
  go_ret2
  exact ⟨A5, c5, b5, rfl, hG5.lower hB4.size, hB4.trans (hb5.mono hB4.size)⟩

end Go.Proofs.YtibidlgikecelaaDoor
