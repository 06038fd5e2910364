/- Contract: amphoraref02.Invert. -/
import Derived.Test.YtibidlgikecelaaDoorT9
namespace Go.Proofs.YtibidlgikecelaaDoor
open Go.RowKit
set_option linter.unusedVariables false
set_option linter.unusedSimpArgs false

set_option maxHeartbeats 2000000 in
set_option maxRecDepth 100000 in
theorem rinvert_gen {w : World} {A : Option Addr} {n cA : Nat} {vA : List Value} {M : Mx} {RL : List (List B8)} {E : Int} (hA : At w A vA) (hLA : Texts w vA (rowsL n n M)) (hn : 0 < n) (hn2 : n ≤ 255)
    (HNone : Hid (invM n M = none → RL = [] ∧ E = 20)) (HSome : Hid (∀ R, invM n M = some R → RL = rowsL n n R ∧ E = 0)) :
    Calls Tryd.prog 41 #[.slice A n cA] w (RetX w RL E) := by
  have hni : (0 : Int) < (n : Int) := by omega
  obtain ⟨ba, oa, rfl, hba⟩ := heads_some hA hLA (by simpa using hn)
  obtain ⟨XA0, cA0, hA0, _, _, _⟩ := row_head hA hLA hn
  rw [Nat.add_zero] at hA0
  have hisA := Lib.hid (ris_calls (c := cA) hA hLA (by simp : n = _))
  rw [rowsL_isB M hn hn2 hn hn2] at hisA
  have hnn : ((n : Int) != (n : Int)) = false := by simp
  go_enter Tryd.func41, Tryd.ntmps41
  go_wp2_with fail
  refine hisA.out.mono ?_
  rintro e w' ⟨rfl, rfl⟩
  go_wp2_with fail
  refine (rident_calls (w := w) hn hn2).mono ?_
  rintro e w1 ⟨A1, c1, blk1, rfl, hG1, hb1⟩
  obtain ⟨gO, rfl, hO1⟩ := hG1.toW hn (by unfold maxLen; omega)
  have hOg := hO1.ltG
  have hOb := fun (k : Nat) (hk : k < n) => hO1.ltB hk
  have HO1 := Lib.hid hO1
  clear hisA hG1 hO1
  go_wp2_with fail
  go_loopw [7, 38] (fun s7 s wr => ∃ (i : Nat) (A' : Option Addr) (cap : Nat) (xs : List Value), i ≤ n ∧ s = .int .i64 ((i : Nat) : Int) ∧ s7 = .slice A' i cap ∧ OwnT wr w1.heap.size A' cap xs (rowsL i n M) ∧ Below w1.heap.size w1 wr) (fun _ s _ => n - (intOf s).toNat)
  case atStart => exact ⟨0, none, 0, [], by omega, rfl, rfl, OwnT.nil _ _, Below.refl _ _⟩
  case round =>
    obtain ⟨i, A', cap, xs, hi, rfl, rfl, hT, hb⟩ := hrel
    have hB := hb1.trans (hb.mono hb1.size)
    by_cases hin : i < n
    · have hii : (i : Int) < (n : Int) := by omega
      obtain ⟨X, cx, hca, hXA, _, hXnil⟩ := row_head hA hLA hin
      have hcaw := (hB.cell (p := ⟨ba, oa + i, none⟩) hba).trans hca
      have hXw := hXA.below hB
      have HT := Lib.hid hT
      have hzw := hb.size
      clear hca hT
      go_wp2_with (first
        | (at_builtin; refine app_fresh rfl (.tmp 43) (.tmp 44) rfl rfl rfl (by simp) hXw hXnil (by omega) ?_; intro A2 c2 w2 ho2 hb2; have hb3 := hb2.trans ((below1' w2 (.cells #[.slice A2 n c2] 22)).mono hb2.size); have hO3 := HT.out.below hb3; have hhead := hO3.own; rw [length_rowsL] at hhead; have hz3 := hb3.size)
        | (at_builtin; refine app_head rfl (.tmp 42) (.tmp 46) rfl w1.heap.size rfl hhead rfl (news := [.slice A2 n c2]) rfl (at_lit1 _ _ _) (by intro u hu; rw [List.mem_singleton] at hu; subst hu; rfl) (by simp) (by omega) (by omega) ?_; intro A4 c4 w4 ho4 hb4 hg4 hc4))
      have hO4 : OwnT w4 w1.heap.size A4 c4 (xs ++ [.slice A2 n c2]) (rowsL (i + 1) n M) := by
        rw [rowsL_succ]
        exact HT.out.push hzw (by simp) (by omega) ho2 (by simp) hb3 (below1' _ _) ho4 hg4
      exact ⟨⟨i + 1, A4, c4, _, by omega, by go_num, rfl, hO4, (hb.trans (hb3.mono hzw)).trans hb4⟩, by simp [intOf]; omega⟩
    · obtain rfl : n = i := by omega
      obtain ⟨gL, bL0, pL0, rfl, rfl, hL⟩ := hT.toW hn hn
      have hLg := hL.ltG
      have hP0 : Pair wr w.heap.size gL cap bL0 pL0 gO c1 blk1 (fun _ => n) n M oneM := ⟨hL.lower hb1.size, HO1.out.below hb, by omega, fun a k ha hk he => by have := hL.ltB ha; have := hOb k hk; omega⟩
      clear hL hLg hOg hOb HO1 hT hb hA0
      go_wp2_with fail
      go_loopw [50] (fun s wr => ∃ (c : Nat) (bL pL bO pO : Nat → Nat) (L O : Mx), c ≤ n ∧ s = .int .i64 ((c : Nat) : Int) ∧ Pair wr w.heap.size gL cap bL pL gO c1 bO pO n L O ∧ Below w.heap.size w wr ∧ Hid (elimM n (n - c) c (sideW n L O) = elimM n n 0 (sideW n M oneM))) (fun s _ => n - (intOf s).toNat)
      case atStart => exact ⟨0, bL0, pL0, blk1, (fun _ => n), M, oneM, by omega, rfl, hP0, hB, rfl⟩
      case round =>
        obtain ⟨c, bL, pL, bO, pO, L, O, hc, rfl, hP, hBw, HE⟩ := hrel
        clear hP0 hB
        by_cases hcn : c < n
        · have hci : (c : Int) < (n : Int) := by omega
          go_wp2_with fail
          go_loop [11] (fun s => ∃ p : Nat, c ≤ p ∧ p ≤ n ∧ s = .int .i64 ((p : Nat) : Int) ∧ Hid (∀ q, c ≤ q → q < p → L q c = 0#8)) (fun s => n - (intOf s).toNat)
          case atStart => exact ⟨c, Nat.le_refl _, by omega, rfl, fun q h1 h2 => by omega⟩
          case round =>
            obtain ⟨p, hcp, hpn, rfl, HZ⟩ := hrel
            by_cases hpn2 : p < n
            · have hpi : (p : Int) < (n : Int) := by omega
              have hcell := hP.l.cell hpn2
              have hbyte := hP.l.byte hpn2 hcn
              by_cases hz : L p c = 0#8
              · rw [hz] at hbyte
                have HZ2 := Lib.hid hz
                clear hz
                go_wp2_with fail
                refine ⟨⟨p + 1, by omega, by omega, by go_num, fun q h1 h2 => ?_⟩, by simp [intOf]; omega⟩
                by_cases hq : q < p
                · exact HZ.out q h1 hq
                · obtain rfl : q = p := by omega
                  exact HZ2.out
              · have hne := byte_eq0 hz
                have hpe : ((p : Int) == (n : Int)) = false := by simp; omega
                have HPIV := Lib.hid (elim_some (k := n - c - 1) ((pivot_side hcn L O).trans (pivot_at hcp hpn2 hz HZ.out)))
                have hVc : swapM c p L c c ≠ 0#8 := by simpa [swapM] using hz
                rw [show n - c - 1 + 1 = n - c by omega, HE.out, ← sideW_swap] at HPIV
                clear hz
                go_wp2_with fail
                have hPD : Pair wr.drew w.heap.size gL cap bL pL gO c1 bO pO n L O := hP.below (belowN 1 : Below wr.heap.size wr (wr.drewN 1))
                have hBD : Below w.heap.size w wr.drew := hBw.trans ((belowN 1 : Below wr.heap.size wr (wr.drewN 1)).mono hBw.size)
                refine wp_region_held_drew (S := fun _ => True) (by kernel_rfl) trivial (fun _ => ?_)
                generalize wr.drew = WD at *
                clear hcell hbyte hne hP hBw
                have hccL := hPD.l.cell hcn
                have hcpL := hPD.l.cell hpn2
                have hfcL := hPD.l.frozen c
                refine wpAnyH_take (i := 0) (v := ?_) rfl (by kernel_rfl) (by kernel_rfl) (by kernel_rfl) (fun _ _ _ h => h) (Or.inl ⟨by rfl, ?_⟩) (by assumption) ?_; rotate_left; (intro w hSw; (try dsimp only at hSw); go_simp; (first | done | (with_reducible rfl))); (try simp only [List.getElem_toArray, List.getElem_cons_succ, List.getElem_cons_zero, Act.put, List.setIfInBounds_toArray, List.set_cons_zero, List.set_cons_succ])
                refine wpAnyH_take (i := 1) (v := ?_) rfl (by kernel_rfl) (by kernel_rfl) (by kernel_rfl) (fun _ _ _ h => h) (Or.inl ⟨by rfl, ?_⟩) (by assumption) ?_; rotate_left; (intro w hSw; (try dsimp only at hSw); go_simp; (first | done | (with_reducible rfl))); (try simp only [List.getElem_toArray, List.getElem_cons_succ, List.getElem_cons_zero, Act.put, List.setIfInBounds_toArray, List.set_cons_zero, List.set_cons_succ])
                refine wpAnyH_take (i := 4) (v := ?_) rfl (by kernel_rfl) (by kernel_rfl) (by kernel_rfl) (fun _ _ _ h => h) (Or.inl ⟨by rfl, ?_⟩) (by assumption) ?_; rotate_left; (intro w hSw; (try dsimp only at hSw); go_simp; (first | done | (with_reducible rfl))); (try simp only [List.getElem_toArray, List.getElem_cons_succ, List.getElem_cons_zero, Act.put, List.setIfInBounds_toArray, List.set_cons_zero, List.set_cons_succ])
                refine wpAnyH_take (i := 5) (v := ?_) rfl (by kernel_rfl) (by kernel_rfl) (by kernel_rfl) (fun _ _ _ h => h) (Or.inl ⟨by rfl, ?_⟩) (by assumption) ?_; rotate_left; (intro w hSw; (try dsimp only at hSw); go_simp; (first | done | (with_reducible rfl))); (try simp only [List.getElem_toArray, List.getElem_cons_succ, List.getElem_cons_zero, Act.put, List.setIfInBounds_toArray, List.set_cons_zero, List.set_cons_succ])
                refine wpAnyH_take (i := 8) (v := ?_) rfl (by kernel_rfl) (by kernel_rfl) (by kernel_rfl) (fun _ _ _ h => h) (Or.inl ⟨by rfl, ?_⟩) (by assumption) ?_; rotate_left; (intro w hSw; (try dsimp only at hSw); go_simp; (first | done | (with_reducible rfl))); (try simp only [List.getElem_toArray, List.getElem_cons_succ, List.getElem_cons_zero, Act.put, List.setIfInBounds_toArray, List.set_cons_zero, List.set_cons_succ])
                refine wpAnyH_take (i := 9) (v := ?_) rfl (by kernel_rfl) (by kernel_rfl) (by kernel_rfl) (fun _ _ _ h => h) (Or.inl ⟨by rfl, ?_⟩) (by assumption) ?_; rotate_left; (intro w hSw; (try dsimp only at hSw); go_simp; (first | done | (with_reducible rfl))); (try simp only [List.getElem_toArray, List.getElem_cons_succ, List.getElem_cons_zero, Act.put, List.setIfInBounds_toArray, List.set_cons_zero, List.set_cons_succ])
                refine wpAnyH_take (i := 6) (v := ?_) rfl (by kernel_rfl) (by kernel_rfl) (by kernel_rfl) (fun _ _ _ h => h) (Or.inl ⟨by rfl, ?_⟩) (by assumption) ?_; rotate_left; (intro w hSw; (try dsimp only at hSw); go_simp; (first | done | (with_reducible rfl))); (try simp only [List.getElem_toArray, List.getElem_cons_succ, List.getElem_cons_zero, Act.put, List.setIfInBounds_toArray, List.set_cons_zero, List.set_cons_succ])
                refine wpAnyH_take (i := 10) (v := ?_) rfl (by kernel_rfl) (by kernel_rfl) (by kernel_rfl) (fun _ _ _ h => h) (Or.inl ⟨by rfl, ?_⟩) (by assumption) ?_; rotate_left; (intro w hSw; (try dsimp only at hSw); go_simp; (first | done | (with_reducible rfl))); (try simp only [List.getElem_toArray, List.getElem_cons_succ, List.getElem_cons_zero, Act.put, List.setIfInBounds_toArray, List.set_cons_zero, List.set_cons_succ])
                refine wpAnyH_take (i := 2) (v := ?_) rfl (by kernel_rfl) (by kernel_rfl) (by kernel_rfl) (fun _ _ _ h => h) (Or.inl ⟨by rfl, ?_⟩) (by assumption) ?_; rotate_left; (intro w hSw; (try dsimp only at hSw); go_simp; (first | done | (with_reducible rfl))); (try simp only [List.getElem_toArray, List.getElem_cons_succ, List.getElem_cons_zero, Act.put, List.setIfInBounds_toArray, List.set_cons_zero, List.set_cons_succ])
                refine wpAnyH_take (i := 3) (v := ?_) rfl (by kernel_rfl) (by kernel_rfl) (by kernel_rfl) (fun _ _ _ h => h) (Or.inl ⟨by rfl, ?_⟩) (by assumption) ?_; rotate_left; (intro w hSw; (try dsimp only at hSw); go_simp; (first | done | (with_reducible rfl))); (try simp only [List.getElem_toArray, List.getElem_cons_succ, List.getElem_cons_zero, Act.put, List.setIfInBounds_toArray, List.set_cons_zero, List.set_cons_succ])
                have hst1 := hPD.l.own.stored c (.slice (some ⟨bL p, 0, none⟩) n (pL p))
                have hc2 := hst1.1.cellAt p (by omega)
                have hf2 := hst1.1.frozenAt p
                obtain ⟨u, hu⟩ : ∃ u, ((headsC bL pL n n).set c (.slice (some ⟨bL p, 0, none⟩) n (pL p)))[p]? = some u := ⟨_, List.getElem?_eq_getElem (by simp; omega)⟩
                rw [hu] at hc2
                clear hu hst1
                apply share
                · intro hrest
                  refine wpAnyH_ready (rs := [7, 11]) (by kernel_rfl) (by simp) ?_
                  refine AllReadyH.cons rfl (fun K hK => ?_) (AllReadyH.cons rfl (fun K hK => ?_) AllReadyH.nil)
                  · go_simp
                    go_wp2_with fail
                    refine hK.out _ _ trivial (fun _ => ?_); clear hK K; (try simp only [List.getElem_toArray, List.getElem_cons_succ, List.getElem_cons_zero, Act.put, List.setIfInBounds_toArray, List.set_cons_zero, List.set_cons_succ])
                    refine wpAnyH_ready (rs := [11]) (by kernel_rfl) (by simp) ?_; refine AllReadyH.cons rfl (fun K hK => ?_) AllReadyH.nil
                    go_simp
                    go_wp2_with fail
                    refine hK.out _ _ trivial (fun _ => ?_); clear hK K; (try simp only [List.getElem_toArray, List.getElem_cons_succ, List.getElem_cons_zero, Act.put, List.setIfInBounds_toArray, List.set_cons_zero, List.set_cons_succ])
                    refine wpAnyH_take (i := 12) (v := ?_) rfl (by kernel_rfl) (by kernel_rfl) (by kernel_rfl) (fun _ _ _ h => h) (Or.inl ⟨by rfl, ?_⟩) (by assumption) ?_; rotate_left; (intro w hSw; (try dsimp only at hSw); go_simp; (first | done | (with_reducible rfl))); (try simp only [List.getElem_toArray, List.getElem_cons_succ, List.getElem_cons_zero, Act.put, List.setIfInBounds_toArray, List.set_cons_zero, List.set_cons_succ])
                    refine wpAnyH_ready (rs := [13]) (by kernel_rfl) (by simp) ?_; refine AllReadyH.cons rfl (fun K hK => ?_) AllReadyH.nil
                    go_simp
                    go_wp2_with fail
                    refine hK.out _ _ trivial (fun _ => ?_); clear hK K; (try simp only [List.getElem_toArray, List.getElem_cons_succ, List.getElem_cons_zero, Act.put, List.setIfInBounds_toArray, List.set_cons_zero, List.set_cons_succ])
                    refine wpAnyH_take (i := 14) (v := ?_) rfl (by kernel_rfl) (by kernel_rfl) (by kernel_rfl) (fun _ _ _ h => h) (Or.inl ⟨by rfl, ?_⟩) (by assumption) ?_; rotate_left; (intro w hSw; (try dsimp only at hSw); go_simp; (first | done | (with_reducible rfl))); (try simp only [List.getElem_toArray, List.getElem_cons_succ, List.getElem_cons_zero, Act.put, List.setIfInBounds_toArray, List.set_cons_zero, List.set_cons_succ])
                    refine wpAnyH_ready (rs := [15]) (by kernel_rfl) (by simp) ?_; refine AllReadyH.cons rfl (fun K hK => ?_) AllReadyH.nil
                    go_simp
                    go_wp2_with fail
                    refine hK.out _ _ trivial (fun _ => ?_); clear hK K; (try simp only [List.getElem_toArray, List.getElem_cons_succ, List.getElem_cons_zero, Act.put, List.setIfInBounds_toArray, List.set_cons_zero, List.set_cons_succ])
                    refine wpAnyH_done (by kernel_rfl) ?_ _
                    exact hrest
                  · go_simp
                    go_wp2_with fail
                    refine hK.out _ _ trivial (fun _ => ?_); clear hK K; (try simp only [List.getElem_toArray, List.getElem_cons_succ, List.getElem_cons_zero, Act.put, List.setIfInBounds_toArray, List.set_cons_zero, List.set_cons_succ])
                    refine wpAnyH_ready (rs := [7]) (by kernel_rfl) (by simp) ?_; refine AllReadyH.cons rfl (fun K hK => ?_) AllReadyH.nil
                    go_simp
                    go_wp2_with fail
                    refine hK.out _ _ trivial (fun _ => ?_); clear hK K; (try simp only [List.getElem_toArray, List.getElem_cons_succ, List.getElem_cons_zero, Act.put, List.setIfInBounds_toArray, List.set_cons_zero, List.set_cons_succ])
                    refine wpAnyH_take (i := 12) (v := ?_) rfl (by kernel_rfl) (by kernel_rfl) (by kernel_rfl) (fun _ _ _ h => h) (Or.inl ⟨by rfl, ?_⟩) (by assumption) ?_; rotate_left; (intro w hSw; (try dsimp only at hSw); go_simp; (first | done | (with_reducible rfl))); (try simp only [List.getElem_toArray, List.getElem_cons_succ, List.getElem_cons_zero, Act.put, List.setIfInBounds_toArray, List.set_cons_zero, List.set_cons_succ])
                    refine wpAnyH_ready (rs := [13]) (by kernel_rfl) (by simp) ?_; refine AllReadyH.cons rfl (fun K hK => ?_) AllReadyH.nil
                    go_simp
                    go_wp2_with fail
                    refine hK.out _ _ trivial (fun _ => ?_); clear hK K; (try simp only [List.getElem_toArray, List.getElem_cons_succ, List.getElem_cons_zero, Act.put, List.setIfInBounds_toArray, List.set_cons_zero, List.set_cons_succ])
                    refine wpAnyH_take (i := 14) (v := ?_) rfl (by kernel_rfl) (by kernel_rfl) (by kernel_rfl) (fun _ _ _ h => h) (Or.inl ⟨by rfl, ?_⟩) (by assumption) ?_; rotate_left; (intro w hSw; (try dsimp only at hSw); go_simp; (first | done | (with_reducible rfl))); (try simp only [List.getElem_toArray, List.getElem_cons_succ, List.getElem_cons_zero, Act.put, List.setIfInBounds_toArray, List.set_cons_zero, List.set_cons_succ])
                    refine wpAnyH_ready (rs := [15]) (by kernel_rfl) (by simp) ?_; refine AllReadyH.cons rfl (fun K hK => ?_) AllReadyH.nil
                    go_simp
                    go_wp2_with fail
                    refine hK.out _ _ trivial (fun _ => ?_); clear hK K; (try simp only [List.getElem_toArray, List.getElem_cons_succ, List.getElem_cons_zero, Act.put, List.setIfInBounds_toArray, List.set_cons_zero, List.set_cons_succ])
                    refine wpAnyH_done (by kernel_rfl) ?_ _
                    exact hrest
                clear hc2 hf2
                have hPs := hPD.swapL hcn hpn2
                have hBs := (hBD.setCell (p := ⟨gL, c, none⟩) hPD.l.ltG.1 (.slice (some ⟨bL p, 0, none⟩) n (pL p))).setCell (p := ⟨gL, p, none⟩) hPD.l.ltG.1 (.slice (some ⟨bL c, 0, none⟩) n (pL c))
                clear hPD hBD hccL hcpL hfcL HE HZ hpe
                generalize (WD.setCell ⟨gL, c, none⟩ (.slice (some ⟨bL p, 0, none⟩) n (pL p))).setCell ⟨gL, p, none⟩ (.slice (some ⟨bL c, 0, none⟩) n (pL c)) = ws at *
                generalize swapM c p L = V at *
                generalize swapF bL c p = b1 at *
                generalize swapF pL c p = p1 at *
                go_wp2_with fail
                have hPD : Pair ws.drew w.heap.size gL cap b1 p1 gO c1 bO pO n V O := hPs.below (belowN 1 : Below ws.heap.size ws (ws.drewN 1))
                have hBD : Below w.heap.size w ws.drew := hBs.trans ((belowN 1 : Below ws.heap.size ws (ws.drewN 1)).mono hBs.size)
                refine wp_region_held_drew (S := fun _ => True) (by kernel_rfl) trivial (fun _ => ?_)
                generalize ws.drew = WO at *
                clear hPs hBs
                have hccO := hPD.o.cell hcn
                have hcpO := hPD.o.cell hpn2
                have hfcO := hPD.o.frozen c
                refine wpAnyH_take (i := 0) (v := ?_) rfl (by kernel_rfl) (by kernel_rfl) (by kernel_rfl) (fun _ _ _ h => h) (Or.inl ⟨by rfl, ?_⟩) (by assumption) ?_; rotate_left; (intro w hSw; (try dsimp only at hSw); go_simp; (first | done | (with_reducible rfl))); (try simp only [List.getElem_toArray, List.getElem_cons_succ, List.getElem_cons_zero, Act.put, List.setIfInBounds_toArray, List.set_cons_zero, List.set_cons_succ])
                refine wpAnyH_take (i := 1) (v := ?_) rfl (by kernel_rfl) (by kernel_rfl) (by kernel_rfl) (fun _ _ _ h => h) (Or.inl ⟨by rfl, ?_⟩) (by assumption) ?_; rotate_left; (intro w hSw; (try dsimp only at hSw); go_simp; (first | done | (with_reducible rfl))); (try simp only [List.getElem_toArray, List.getElem_cons_succ, List.getElem_cons_zero, Act.put, List.setIfInBounds_toArray, List.set_cons_zero, List.set_cons_succ])
                refine wpAnyH_take (i := 4) (v := ?_) rfl (by kernel_rfl) (by kernel_rfl) (by kernel_rfl) (fun _ _ _ h => h) (Or.inl ⟨by rfl, ?_⟩) (by assumption) ?_; rotate_left; (intro w hSw; (try dsimp only at hSw); go_simp; (first | done | (with_reducible rfl))); (try simp only [List.getElem_toArray, List.getElem_cons_succ, List.getElem_cons_zero, Act.put, List.setIfInBounds_toArray, List.set_cons_zero, List.set_cons_succ])
                refine wpAnyH_take (i := 5) (v := ?_) rfl (by kernel_rfl) (by kernel_rfl) (by kernel_rfl) (fun _ _ _ h => h) (Or.inl ⟨by rfl, ?_⟩) (by assumption) ?_; rotate_left; (intro w hSw; (try dsimp only at hSw); go_simp; (first | done | (with_reducible rfl))); (try simp only [List.getElem_toArray, List.getElem_cons_succ, List.getElem_cons_zero, Act.put, List.setIfInBounds_toArray, List.set_cons_zero, List.set_cons_succ])
                refine wpAnyH_take (i := 8) (v := ?_) rfl (by kernel_rfl) (by kernel_rfl) (by kernel_rfl) (fun _ _ _ h => h) (Or.inl ⟨by rfl, ?_⟩) (by assumption) ?_; rotate_left; (intro w hSw; (try dsimp only at hSw); go_simp; (first | done | (with_reducible rfl))); (try simp only [List.getElem_toArray, List.getElem_cons_succ, List.getElem_cons_zero, Act.put, List.setIfInBounds_toArray, List.set_cons_zero, List.set_cons_succ])
                refine wpAnyH_take (i := 9) (v := ?_) rfl (by kernel_rfl) (by kernel_rfl) (by kernel_rfl) (fun _ _ _ h => h) (Or.inl ⟨by rfl, ?_⟩) (by assumption) ?_; rotate_left; (intro w hSw; (try dsimp only at hSw); go_simp; (first | done | (with_reducible rfl))); (try simp only [List.getElem_toArray, List.getElem_cons_succ, List.getElem_cons_zero, Act.put, List.setIfInBounds_toArray, List.set_cons_zero, List.set_cons_succ])
                refine wpAnyH_take (i := 6) (v := ?_) rfl (by kernel_rfl) (by kernel_rfl) (by kernel_rfl) (fun _ _ _ h => h) (Or.inl ⟨by rfl, ?_⟩) (by assumption) ?_; rotate_left; (intro w hSw; (try dsimp only at hSw); go_simp; (first | done | (with_reducible rfl))); (try simp only [List.getElem_toArray, List.getElem_cons_succ, List.getElem_cons_zero, Act.put, List.setIfInBounds_toArray, List.set_cons_zero, List.set_cons_succ])
                refine wpAnyH_take (i := 10) (v := ?_) rfl (by kernel_rfl) (by kernel_rfl) (by kernel_rfl) (fun _ _ _ h => h) (Or.inl ⟨by rfl, ?_⟩) (by assumption) ?_; rotate_left; (intro w hSw; (try dsimp only at hSw); go_simp; (first | done | (with_reducible rfl))); (try simp only [List.getElem_toArray, List.getElem_cons_succ, List.getElem_cons_zero, Act.put, List.setIfInBounds_toArray, List.set_cons_zero, List.set_cons_succ])
                refine wpAnyH_take (i := 2) (v := ?_) rfl (by kernel_rfl) (by kernel_rfl) (by kernel_rfl) (fun _ _ _ h => h) (Or.inl ⟨by rfl, ?_⟩) (by assumption) ?_; rotate_left; (intro w hSw; (try dsimp only at hSw); go_simp; (first | done | (with_reducible rfl))); (try simp only [List.getElem_toArray, List.getElem_cons_succ, List.getElem_cons_zero, Act.put, List.setIfInBounds_toArray, List.set_cons_zero, List.set_cons_succ])
                refine wpAnyH_take (i := 3) (v := ?_) rfl (by kernel_rfl) (by kernel_rfl) (by kernel_rfl) (fun _ _ _ h => h) (Or.inl ⟨by rfl, ?_⟩) (by assumption) ?_; rotate_left; (intro w hSw; (try dsimp only at hSw); go_simp; (first | done | (with_reducible rfl))); (try simp only [List.getElem_toArray, List.getElem_cons_succ, List.getElem_cons_zero, Act.put, List.setIfInBounds_toArray, List.set_cons_zero, List.set_cons_succ])
                have hst1 := hPD.o.own.stored c (.slice (some ⟨bO p, 0, none⟩) n (pO p))
                have hc2 := hst1.1.cellAt p (by omega)
                have hf2 := hst1.1.frozenAt p
                obtain ⟨u, hu⟩ : ∃ u, ((headsC bO pO n n).set c (.slice (some ⟨bO p, 0, none⟩) n (pO p)))[p]? = some u := ⟨_, List.getElem?_eq_getElem (by simp; omega)⟩
                rw [hu] at hc2
                clear hu hst1
                apply share
                · intro hrest
                  refine wpAnyH_ready (rs := [7, 11]) (by kernel_rfl) (by simp) ?_
                  refine AllReadyH.cons rfl (fun K hK => ?_) (AllReadyH.cons rfl (fun K hK => ?_) AllReadyH.nil)
                  · go_simp
                    go_wp2_with fail
                    refine hK.out _ _ trivial (fun _ => ?_); clear hK K; (try simp only [List.getElem_toArray, List.getElem_cons_succ, List.getElem_cons_zero, Act.put, List.setIfInBounds_toArray, List.set_cons_zero, List.set_cons_succ])
                    refine wpAnyH_ready (rs := [11]) (by kernel_rfl) (by simp) ?_; refine AllReadyH.cons rfl (fun K hK => ?_) AllReadyH.nil
                    go_simp
                    go_wp2_with fail
                    refine hK.out _ _ trivial (fun _ => ?_); clear hK K; (try simp only [List.getElem_toArray, List.getElem_cons_succ, List.getElem_cons_zero, Act.put, List.setIfInBounds_toArray, List.set_cons_zero, List.set_cons_succ])
                    refine wpAnyH_take (i := 12) (v := ?_) rfl (by kernel_rfl) (by kernel_rfl) (by kernel_rfl) (fun _ _ _ h => h) (Or.inl ⟨by rfl, ?_⟩) (by assumption) ?_; rotate_left; (intro w hSw; (try dsimp only at hSw); go_simp; (first | done | (with_reducible rfl))); (try simp only [List.getElem_toArray, List.getElem_cons_succ, List.getElem_cons_zero, Act.put, List.setIfInBounds_toArray, List.set_cons_zero, List.set_cons_succ])
                    refine wpAnyH_ready (rs := [13]) (by kernel_rfl) (by simp) ?_; refine AllReadyH.cons rfl (fun K hK => ?_) AllReadyH.nil
                    go_simp
                    go_wp2_with fail
                    refine hK.out _ _ trivial (fun _ => ?_); clear hK K; (try simp only [List.getElem_toArray, List.getElem_cons_succ, List.getElem_cons_zero, Act.put, List.setIfInBounds_toArray, List.set_cons_zero, List.set_cons_succ])
                    refine wpAnyH_take (i := 14) (v := ?_) rfl (by kernel_rfl) (by kernel_rfl) (by kernel_rfl) (fun _ _ _ h => h) (Or.inl ⟨by rfl, ?_⟩) (by assumption) ?_; rotate_left; (intro w hSw; (try dsimp only at hSw); go_simp; (first | done | (with_reducible rfl))); (try simp only [List.getElem_toArray, List.getElem_cons_succ, List.getElem_cons_zero, Act.put, List.setIfInBounds_toArray, List.set_cons_zero, List.set_cons_succ])
                    refine wpAnyH_ready (rs := [15]) (by kernel_rfl) (by simp) ?_; refine AllReadyH.cons rfl (fun K hK => ?_) AllReadyH.nil
                    go_simp
                    go_wp2_with fail
                    refine hK.out _ _ trivial (fun _ => ?_); clear hK K; (try simp only [List.getElem_toArray, List.getElem_cons_succ, List.getElem_cons_zero, Act.put, List.setIfInBounds_toArray, List.set_cons_zero, List.set_cons_succ])
                    refine wpAnyH_done (by kernel_rfl) ?_ _
                    exact hrest
                  · go_simp
                    go_wp2_with fail
                    refine hK.out _ _ trivial (fun _ => ?_); clear hK K; (try simp only [List.getElem_toArray, List.getElem_cons_succ, List.getElem_cons_zero, Act.put, List.setIfInBounds_toArray, List.set_cons_zero, List.set_cons_succ])
                    refine wpAnyH_ready (rs := [7]) (by kernel_rfl) (by simp) ?_; refine AllReadyH.cons rfl (fun K hK => ?_) AllReadyH.nil
                    go_simp
                    go_wp2_with fail
                    refine hK.out _ _ trivial (fun _ => ?_); clear hK K; (try simp only [List.getElem_toArray, List.getElem_cons_succ, List.getElem_cons_zero, Act.put, List.setIfInBounds_toArray, List.set_cons_zero, List.set_cons_succ])
                    refine wpAnyH_take (i := 12) (v := ?_) rfl (by kernel_rfl) (by kernel_rfl) (by kernel_rfl) (fun _ _ _ h => h) (Or.inl ⟨by rfl, ?_⟩) (by assumption) ?_; rotate_left; (intro w hSw; (try dsimp only at hSw); go_simp; (first | done | (with_reducible rfl))); (try simp only [List.getElem_toArray, List.getElem_cons_succ, List.getElem_cons_zero, Act.put, List.setIfInBounds_toArray, List.set_cons_zero, List.set_cons_succ])
                    refine wpAnyH_ready (rs := [13]) (by kernel_rfl) (by simp) ?_; refine AllReadyH.cons rfl (fun K hK => ?_) AllReadyH.nil
                    go_simp
                    go_wp2_with fail
                    refine hK.out _ _ trivial (fun _ => ?_); clear hK K; (try simp only [List.getElem_toArray, List.getElem_cons_succ, List.getElem_cons_zero, Act.put, List.setIfInBounds_toArray, List.set_cons_zero, List.set_cons_succ])
                    refine wpAnyH_take (i := 14) (v := ?_) rfl (by kernel_rfl) (by kernel_rfl) (by kernel_rfl) (fun _ _ _ h => h) (Or.inl ⟨by rfl, ?_⟩) (by assumption) ?_; rotate_left; (intro w hSw; (try dsimp only at hSw); go_simp; (first | done | (with_reducible rfl))); (try simp only [List.getElem_toArray, List.getElem_cons_succ, List.getElem_cons_zero, Act.put, List.setIfInBounds_toArray, List.set_cons_zero, List.set_cons_succ])
                    refine wpAnyH_ready (rs := [15]) (by kernel_rfl) (by simp) ?_; refine AllReadyH.cons rfl (fun K hK => ?_) AllReadyH.nil
                    go_simp
                    go_wp2_with fail
                    refine hK.out _ _ trivial (fun _ => ?_); clear hK K; (try simp only [List.getElem_toArray, List.getElem_cons_succ, List.getElem_cons_zero, Act.put, List.setIfInBounds_toArray, List.set_cons_zero, List.set_cons_succ])
                    refine wpAnyH_done (by kernel_rfl) ?_ _
                    exact hrest
                clear hc2 hf2
                have hPs := hPD.swapO hcn hpn2
                have hBs := (hBD.setCell (p := ⟨gO, c, none⟩) hPD.o.ltG.1 (.slice (some ⟨bO p, 0, none⟩) n (pO p))).setCell (p := ⟨gO, p, none⟩) hPD.o.ltG.1 (.slice (some ⟨bO c, 0, none⟩) n (pO c))
                clear hPD hBD hccO hcpO hfcO
                generalize (WO.setCell ⟨gO, c, none⟩ (.slice (some ⟨bO p, 0, none⟩) n (pO p))).setCell ⟨gO, p, none⟩ (.slice (some ⟨bO c, 0, none⟩) n (pO c)) = wt at *
                generalize swapM c p O = U at *
                generalize swapF bO c p = b2 at *
                generalize swapF pO c p = p2 at *
                have hccL := hPs.l.cell hcn
                have hbyL := hPs.l.byte hcn hcn
                generalize hu : gi (V c c) = u
                have HU := Lib.hid hu
                clear hu
                go_wp2_with fail
                refine (rinv_calls (V c c) hVc).mono ?_
                rw [HU.out]
                rintro e w' ⟨rfl, rfl⟩
                clear hccL hbyL
                go_wp2_with fail
                go_loopw [112] (fun s wr => ∃ k : Nat, k ≤ n ∧ s = .int .i64 ((k : Nat) : Int) ∧ Pair wr w.heap.size gL cap b1 p1 gO c1 b2 p2 n (scaleAt c V u k) (scaleAt c U u k) ∧ Below w.heap.size w wr) (fun s _ => n - (intOf s).toNat)
                case atStart => exact ⟨0, by omega, rfl, by rw [scaleAt_start, scaleAt_start]; exact hPs, hBs⟩
                case round =>
                  obtain ⟨k, hk, rfl, hPr, hBr⟩ := hrel
                  rename World => wk
                  clear hPs hBs
                  by_cases hkn : k < n
                  · have hkk : (k : Int) < (n : Int) := by omega
                    have HSV := Lib.hid (scaleAt_step c V u k)
                    have HSU := Lib.hid (scaleAt_step c U u k)
                    go_wp2_with fail
                    have hPE : Pair wk.drew w.heap.size gL cap b1 p1 gO c1 b2 p2 n (scaleAt c V u k) (scaleAt c U u k) := hPr.below (belowN 1 : Below wk.heap.size wk (wk.drewN 1))
                    have hBE : Below w.heap.size w wk.drew := hBr.trans ((belowN 1 : Below wk.heap.size wk (wk.drewN 1)).mono hBr.size)
                    refine wp_region_held_drew (S := fun w' => w'.cell? ⟨gL, c, none⟩ = some (.slice (some ⟨b1 c, 0, none⟩) n (p1 c))) (by kernel_rfl) (hPE.l.cell hcn) (fun hHeld => ?_)
                    generalize wk.drew = WE at *
                    clear hPr hBr
                    have hcc := hPE.l.cell hcn
                    have hby := hPE.l.byte hcn hkn
                    rw [scaleAt_at] at hby
                    have hfz := hPE.l.bfrozen hcn k
                    refine wpAnyH_take (i := 0) (v := ?_) rfl (by kernel_rfl) (by kernel_rfl) (by kernel_rfl) (fun _ _ _ h => h) (Or.inl ⟨by rfl, ?_⟩) (by assumption) ?_; rotate_left; (intro w hSw; (try dsimp only at hSw); go_simp; (first | done | (with_reducible rfl))); (try simp only [List.getElem_toArray, List.getElem_cons_succ, List.getElem_cons_zero, Act.put, List.setIfInBounds_toArray, List.set_cons_zero, List.set_cons_succ])
                    refine wpAnyH_take (i := 1) (v := ?_) rfl (by kernel_rfl) (by kernel_rfl) (by kernel_rfl) (fun _ _ _ h => h) (Or.inl ⟨by rfl, ?_⟩) (by assumption) ?_; rotate_left; (intro w hSw; (try dsimp only at hSw); go_simp; (first | done | (with_reducible rfl))); (try simp only [List.getElem_toArray, List.getElem_cons_succ, List.getElem_cons_zero, Act.put, List.setIfInBounds_toArray, List.set_cons_zero, List.set_cons_succ])
                    refine wpAnyH_take (i := 4) (v := ?_) rfl (by kernel_rfl) (by kernel_rfl) (by kernel_rfl) (fun _ _ _ h => h) (Or.inl ⟨by rfl, ?_⟩) (by assumption) ?_; rotate_left; (intro w hSw; (try dsimp only at hSw); go_simp; (first | done | (with_reducible rfl))); (try simp only [List.getElem_toArray, List.getElem_cons_succ, List.getElem_cons_zero, Act.put, List.setIfInBounds_toArray, List.set_cons_zero, List.set_cons_succ])
                    refine wpAnyH_take (i := 5) (v := ?_) rfl (by kernel_rfl) (by kernel_rfl) (by kernel_rfl) (fun _ _ _ h => h) (Or.inl ⟨by rfl, ?_⟩) (by assumption) ?_; rotate_left; (intro w hSw; (try dsimp only at hSw); go_simp; (first | done | (with_reducible rfl))); (try simp only [List.getElem_toArray, List.getElem_cons_succ, List.getElem_cons_zero, Act.put, List.setIfInBounds_toArray, List.set_cons_zero, List.set_cons_succ])
                    refine wpAnyH_take (i := 6) (v := ?_) rfl (by kernel_rfl) (by kernel_rfl) (by kernel_rfl) (fun _ _ _ h => h) (Or.inl ⟨by rfl, ?_⟩) (by assumption) ?_; rotate_left; (intro w hSw; (try dsimp only at hSw); go_simp; (first | done | (with_reducible rfl))); (try simp only [List.getElem_toArray, List.getElem_cons_succ, List.getElem_cons_zero, Act.put, List.setIfInBounds_toArray, List.set_cons_zero, List.set_cons_succ])
                    refine wpAnyH_take (i := 9) (v := ?_) rfl (by kernel_rfl) (by kernel_rfl) (by kernel_rfl) (fun _ _ _ h => h) (Or.inl ⟨by rfl, ?_⟩) (by assumption) ?_; rotate_left; (intro w hSw; (try dsimp only at hSw); go_simp; (first | done | (with_reducible rfl))); (try simp only [List.getElem_toArray, List.getElem_cons_succ, List.getElem_cons_zero, Act.put, List.setIfInBounds_toArray, List.set_cons_zero, List.set_cons_succ])
                    refine wpAnyH_take (i := 12) (v := ?_) rfl (by kernel_rfl) (by kernel_rfl) (by kernel_rfl) (fun _ _ _ h => h) (Or.inl ⟨by rfl, ?_⟩) (by assumption) ?_; rotate_left; (intro w hSw; (try dsimp only at hSw); go_simp; (first | done | (with_reducible rfl))); (try simp only [List.getElem_toArray, List.getElem_cons_succ, List.getElem_cons_zero, Act.put, List.setIfInBounds_toArray, List.set_cons_zero, List.set_cons_succ])
                    refine wpAnyH_take (i := 2) (v := ?_) rfl (by kernel_rfl) (by kernel_rfl) (by kernel_rfl) (fun _ _ _ h => h) (Or.inl ⟨by rfl, ?_⟩) (by assumption) ?_; rotate_left; (intro w hSw; (try dsimp only at hSw); go_simp; (first | done | (with_reducible rfl))); (try simp only [List.getElem_toArray, List.getElem_cons_succ, List.getElem_cons_zero, Act.put, List.setIfInBounds_toArray, List.set_cons_zero, List.set_cons_succ])
                    refine wpAnyH_take (i := 7) (v := ?_) rfl (by kernel_rfl) (by kernel_rfl) (by kernel_rfl) (fun _ _ _ h => h) (Or.inl ⟨by rfl, ?_⟩) (by assumption) ?_; rotate_left; (intro w hSw; (try dsimp only at hSw); go_simp; (first | done | (with_reducible rfl))); (try simp only [List.getElem_toArray, List.getElem_cons_succ, List.getElem_cons_zero, Act.put, List.setIfInBounds_toArray, List.set_cons_zero, List.set_cons_succ])
                    refine wpAnyH_take (i := 3) (v := ?_) rfl (by kernel_rfl) (by kernel_rfl) (by kernel_rfl) (fun _ _ _ h => h) (Or.inl ⟨by rfl, ?_⟩) (by assumption) ?_; rotate_left; (intro w hSw; (try dsimp only at hSw); go_simp; (first | done | (with_reducible rfl))); (try simp only [List.getElem_toArray, List.getElem_cons_succ, List.getElem_cons_zero, Act.put, List.setIfInBounds_toArray, List.set_cons_zero, List.set_cons_succ])
                    refine wpAnyH_take (i := 8) (v := ?_) rfl (by kernel_rfl) (by kernel_rfl) (by kernel_rfl) (fun _ _ _ h => h) (Or.inl ⟨by rfl, ?_⟩) (by assumption) ?_; rotate_left; (intro w hSw; (try dsimp only at hSw); go_simp; (first | done | (with_reducible rfl))); (try simp only [List.getElem_toArray, List.getElem_cons_succ, List.getElem_cons_zero, Act.put, List.setIfInBounds_toArray, List.set_cons_zero, List.set_cons_succ])
                    refine wpAnyH_take (i := 10) (v := ?_) rfl (by kernel_rfl) (by kernel_rfl) (by kernel_rfl) (fun _ _ _ h => h) (Or.inl ⟨by rfl, ?_⟩) (by assumption) ?_; rotate_left; (intro w hSw; (try dsimp only at hSw); go_simp; (first | done | (with_reducible rfl))); (try simp only [List.getElem_toArray, List.getElem_cons_succ, List.getElem_cons_zero, Act.put, List.setIfInBounds_toArray, List.set_cons_zero, List.set_cons_succ])
                    refine wpAnyH_ready (rs := [11]) (by kernel_rfl) (by simp) ?_; refine AllReadyH.cons rfl (fun K hK => ?_) AllReadyH.nil
                    go_simp
                    go_wp2_with fail
                    refine hK.out _ _ hcc (fun hHeld => ?_); clear hK K; (try simp only [List.getElem_toArray, List.getElem_cons_succ, List.getElem_cons_zero, Act.put, List.setIfInBounds_toArray, List.set_cons_zero, List.set_cons_succ])
                    refine wpAnyH_ready (rs := [13]) (by kernel_rfl) (by simp) ?_; refine AllReadyH.cons rfl (fun K hK => ?_) AllReadyH.nil
                    go_simp
                    refine (rmul_calls (V c k) u).mono ?_
                    rintro e w' ⟨rfl, rfl⟩
                    go_wp2_with fail
                    refine hK.out _ _ hcc (fun hHeld => ?_); clear hK K; (try simp only [List.getElem_toArray, List.getElem_cons_succ, List.getElem_cons_zero, Act.put, List.setIfInBounds_toArray, List.set_cons_zero, List.set_cons_succ])
                    generalize hgm : gm (V c k) u = y
                    have HGM := Lib.hid hgm
                    clear hgm
                    refine wpAnyH_take (i := 14) (v := ?_) rfl (by kernel_rfl) (by kernel_rfl) (by kernel_rfl) (fun _ _ _ h => h) (Or.inl ⟨by rfl, ?_⟩) (by assumption) ?_; rotate_left; (intro w hSw; (try dsimp only at hSw); go_simp; (first | done | (with_reducible rfl))); (try simp only [List.getElem_toArray, List.getElem_cons_succ, List.getElem_cons_zero, Act.put, List.setIfInBounds_toArray, List.set_cons_zero, List.set_cons_succ])
                    refine wpAnyH_ready (rs := [15]) (by kernel_rfl) (by simp) ?_; refine AllReadyH.cons rfl (fun K hK => ?_) AllReadyH.nil
                    go_simp
                    go_wp2_with fail
                    have hgs := grown_set WE (b1 c) k (bv y)
                    have hgc := hgs.cell hcc (by simpa using Ne.symm (hPE.l.ne hcn))
                    refine hK.out _ _ hgc (fun hHeld => ?_); clear hK K; (try simp only [List.getElem_toArray, List.getElem_cons_succ, List.getElem_cons_zero, Act.put, List.setIfInBounds_toArray, List.set_cons_zero, List.set_cons_succ])
                    refine wpAnyH_done (by kernel_rfl) ?_ _
                    have hP2 := hPE.putL hcn k y
                    rw [← HGM.out, HSV.out] at hP2
                    have hB2 := hBE.setCell (p := ⟨b1 c, k, none⟩) (hPE.l.ltB hcn).1 (bv y)
                    rw [← HGM.out] at hB2
                    clear hPE hBE hcc hby hfz hgs hgc HSV hHeld
                    rw [show Value.int .u8 (y.toNat : Int) = bv (gm (V c k) u) by rw [HGM.out]; rfl]
                    generalize WE.setCell ⟨b1 c, k, none⟩ (bv (gm (V c k) u)) = wm at *
                    clear HGM
                    clear y
                    go_wp2_with fail
                    have hPE : Pair wm.drew w.heap.size gL cap b1 p1 gO c1 b2 p2 n (scaleAt c V u (k + 1)) (scaleAt c U u k) := hP2.below (belowN 1 : Below wm.heap.size wm (wm.drewN 1))
                    have hBE : Below w.heap.size w wm.drew := hB2.trans ((belowN 1 : Below wm.heap.size wm (wm.drewN 1)).mono hB2.size)
                    refine wp_region_held_drew (S := fun w' => w'.cell? ⟨gO, c, none⟩ = some (.slice (some ⟨b2 c, 0, none⟩) n (p2 c))) (by kernel_rfl) (hPE.o.cell hcn) (fun hHeld => ?_)
                    generalize wm.drew = WE at *
                    clear hP2 hB2
                    have hcc := hPE.o.cell hcn
                    have hby := hPE.o.byte hcn hkn
                    rw [scaleAt_at] at hby
                    have hfz := hPE.o.bfrozen hcn k
                    refine wpAnyH_take (i := 0) (v := ?_) rfl (by kernel_rfl) (by kernel_rfl) (by kernel_rfl) (fun _ _ _ h => h) (Or.inl ⟨by rfl, ?_⟩) (by assumption) ?_; rotate_left; (intro w hSw; (try dsimp only at hSw); go_simp; (first | done | (with_reducible rfl))); (try simp only [List.getElem_toArray, List.getElem_cons_succ, List.getElem_cons_zero, Act.put, List.setIfInBounds_toArray, List.set_cons_zero, List.set_cons_succ])
                    refine wpAnyH_take (i := 1) (v := ?_) rfl (by kernel_rfl) (by kernel_rfl) (by kernel_rfl) (fun _ _ _ h => h) (Or.inl ⟨by rfl, ?_⟩) (by assumption) ?_; rotate_left; (intro w hSw; (try dsimp only at hSw); go_simp; (first | done | (with_reducible rfl))); (try simp only [List.getElem_toArray, List.getElem_cons_succ, List.getElem_cons_zero, Act.put, List.setIfInBounds_toArray, List.set_cons_zero, List.set_cons_succ])
                    refine wpAnyH_take (i := 4) (v := ?_) rfl (by kernel_rfl) (by kernel_rfl) (by kernel_rfl) (fun _ _ _ h => h) (Or.inl ⟨by rfl, ?_⟩) (by assumption) ?_; rotate_left; (intro w hSw; (try dsimp only at hSw); go_simp; (first | done | (with_reducible rfl))); (try simp only [List.getElem_toArray, List.getElem_cons_succ, List.getElem_cons_zero, Act.put, List.setIfInBounds_toArray, List.set_cons_zero, List.set_cons_succ])
                    refine wpAnyH_take (i := 5) (v := ?_) rfl (by kernel_rfl) (by kernel_rfl) (by kernel_rfl) (fun _ _ _ h => h) (Or.inl ⟨by rfl, ?_⟩) (by assumption) ?_; rotate_left; (intro w hSw; (try dsimp only at hSw); go_simp; (first | done | (with_reducible rfl))); (try simp only [List.getElem_toArray, List.getElem_cons_succ, List.getElem_cons_zero, Act.put, List.setIfInBounds_toArray, List.set_cons_zero, List.set_cons_succ])
                    refine wpAnyH_take (i := 6) (v := ?_) rfl (by kernel_rfl) (by kernel_rfl) (by kernel_rfl) (fun _ _ _ h => h) (Or.inl ⟨by rfl, ?_⟩) (by assumption) ?_; rotate_left; (intro w hSw; (try dsimp only at hSw); go_simp; (first | done | (with_reducible rfl))); (try simp only [List.getElem_toArray, List.getElem_cons_succ, List.getElem_cons_zero, Act.put, List.setIfInBounds_toArray, List.set_cons_zero, List.set_cons_succ])
                    refine wpAnyH_take (i := 9) (v := ?_) rfl (by kernel_rfl) (by kernel_rfl) (by kernel_rfl) (fun _ _ _ h => h) (Or.inl ⟨by rfl, ?_⟩) (by assumption) ?_; rotate_left; (intro w hSw; (try dsimp only at hSw); go_simp; (first | done | (with_reducible rfl))); (try simp only [List.getElem_toArray, List.getElem_cons_succ, List.getElem_cons_zero, Act.put, List.setIfInBounds_toArray, List.set_cons_zero, List.set_cons_succ])
                    refine wpAnyH_take (i := 12) (v := ?_) rfl (by kernel_rfl) (by kernel_rfl) (by kernel_rfl) (fun _ _ _ h => h) (Or.inl ⟨by rfl, ?_⟩) (by assumption) ?_; rotate_left; (intro w hSw; (try dsimp only at hSw); go_simp; (first | done | (with_reducible rfl))); (try simp only [List.getElem_toArray, List.getElem_cons_succ, List.getElem_cons_zero, Act.put, List.setIfInBounds_toArray, List.set_cons_zero, List.set_cons_succ])
                    refine wpAnyH_take (i := 2) (v := ?_) rfl (by kernel_rfl) (by kernel_rfl) (by kernel_rfl) (fun _ _ _ h => h) (Or.inl ⟨by rfl, ?_⟩) (by assumption) ?_; rotate_left; (intro w hSw; (try dsimp only at hSw); go_simp; (first | done | (with_reducible rfl))); (try simp only [List.getElem_toArray, List.getElem_cons_succ, List.getElem_cons_zero, Act.put, List.setIfInBounds_toArray, List.set_cons_zero, List.set_cons_succ])
                    refine wpAnyH_take (i := 7) (v := ?_) rfl (by kernel_rfl) (by kernel_rfl) (by kernel_rfl) (fun _ _ _ h => h) (Or.inl ⟨by rfl, ?_⟩) (by assumption) ?_; rotate_left; (intro w hSw; (try dsimp only at hSw); go_simp; (first | done | (with_reducible rfl))); (try simp only [List.getElem_toArray, List.getElem_cons_succ, List.getElem_cons_zero, Act.put, List.setIfInBounds_toArray, List.set_cons_zero, List.set_cons_succ])
                    refine wpAnyH_take (i := 3) (v := ?_) rfl (by kernel_rfl) (by kernel_rfl) (by kernel_rfl) (fun _ _ _ h => h) (Or.inl ⟨by rfl, ?_⟩) (by assumption) ?_; rotate_left; (intro w hSw; (try dsimp only at hSw); go_simp; (first | done | (with_reducible rfl))); (try simp only [List.getElem_toArray, List.getElem_cons_succ, List.getElem_cons_zero, Act.put, List.setIfInBounds_toArray, List.set_cons_zero, List.set_cons_succ])
                    refine wpAnyH_take (i := 8) (v := ?_) rfl (by kernel_rfl) (by kernel_rfl) (by kernel_rfl) (fun _ _ _ h => h) (Or.inl ⟨by rfl, ?_⟩) (by assumption) ?_; rotate_left; (intro w hSw; (try dsimp only at hSw); go_simp; (first | done | (with_reducible rfl))); (try simp only [List.getElem_toArray, List.getElem_cons_succ, List.getElem_cons_zero, Act.put, List.setIfInBounds_toArray, List.set_cons_zero, List.set_cons_succ])
                    refine wpAnyH_take (i := 10) (v := ?_) rfl (by kernel_rfl) (by kernel_rfl) (by kernel_rfl) (fun _ _ _ h => h) (Or.inl ⟨by rfl, ?_⟩) (by assumption) ?_; rotate_left; (intro w hSw; (try dsimp only at hSw); go_simp; (first | done | (with_reducible rfl))); (try simp only [List.getElem_toArray, List.getElem_cons_succ, List.getElem_cons_zero, Act.put, List.setIfInBounds_toArray, List.set_cons_zero, List.set_cons_succ])
                    refine wpAnyH_ready (rs := [11]) (by kernel_rfl) (by simp) ?_; refine AllReadyH.cons rfl (fun K hK => ?_) AllReadyH.nil
                    go_simp
                    go_wp2_with fail
                    refine hK.out _ _ hcc (fun hHeld => ?_); clear hK K; (try simp only [List.getElem_toArray, List.getElem_cons_succ, List.getElem_cons_zero, Act.put, List.setIfInBounds_toArray, List.set_cons_zero, List.set_cons_succ])
                    refine wpAnyH_ready (rs := [13]) (by kernel_rfl) (by simp) ?_; refine AllReadyH.cons rfl (fun K hK => ?_) AllReadyH.nil
                    go_simp
                    refine (rmul_calls (U c k) u).mono ?_
                    rintro e w' ⟨rfl, rfl⟩
                    go_wp2_with fail
                    refine hK.out _ _ hcc (fun hHeld => ?_); clear hK K; (try simp only [List.getElem_toArray, List.getElem_cons_succ, List.getElem_cons_zero, Act.put, List.setIfInBounds_toArray, List.set_cons_zero, List.set_cons_succ])
                    generalize hgm : gm (U c k) u = y
                    have HGM := Lib.hid hgm
                    clear hgm
                    refine wpAnyH_take (i := 14) (v := ?_) rfl (by kernel_rfl) (by kernel_rfl) (by kernel_rfl) (fun _ _ _ h => h) (Or.inl ⟨by rfl, ?_⟩) (by assumption) ?_; rotate_left; (intro w hSw; (try dsimp only at hSw); go_simp; (first | done | (with_reducible rfl))); (try simp only [List.getElem_toArray, List.getElem_cons_succ, List.getElem_cons_zero, Act.put, List.setIfInBounds_toArray, List.set_cons_zero, List.set_cons_succ])
                    refine wpAnyH_ready (rs := [15]) (by kernel_rfl) (by simp) ?_; refine AllReadyH.cons rfl (fun K hK => ?_) AllReadyH.nil
                    go_simp
                    go_wp2_with fail
                    have hgs := grown_set WE (b2 c) k (bv y)
                    have hgc := hgs.cell hcc (by simpa using Ne.symm (hPE.o.ne hcn))
                    refine hK.out _ _ hgc (fun hHeld => ?_); clear hK K; (try simp only [List.getElem_toArray, List.getElem_cons_succ, List.getElem_cons_zero, Act.put, List.setIfInBounds_toArray, List.set_cons_zero, List.set_cons_succ])
                    refine wpAnyH_done (by kernel_rfl) ?_ _
                    have hP2 := hPE.putO hcn k y
                    rw [← HGM.out, HSU.out] at hP2
                    have hB2 := hBE.setCell (p := ⟨b2 c, k, none⟩) (hPE.o.ltB hcn).1 (bv y)
                    rw [show Value.int .u8 (y.toNat : Int) = bv y from rfl]
                    go_wp2_with fail
                    exact ⟨⟨k + 1, by omega, by go_num, by rw [HGM.out] at hP2; exact hP2, hB2⟩, by simp [intOf]; omega⟩
                  · obtain rfl : n = k := by omega
                    replace hPr := hPr.congr (by rw [← HU.out]; exact clearPAt_start c n V V) (by rw [← HU.out]; exact clearPAt_start c n V U)
                    clear hkn hk
                    go_wp2_with fail
                    go_loopw [147] (fun s wr => ∃ r : Nat, r ≤ n ∧ s = .int .i64 ((r : Nat) : Int) ∧ Pair wr w.heap.size gL cap b1 p1 gO c1 b2 p2 n (clearPAt c V V r) (clearPAt c V U r) ∧ Below w.heap.size w wr) (fun s _ => n - (intOf s).toNat)
                    case atStart => exact ⟨0, by omega, rfl, hPr, hBr⟩
                    case round =>
                      obtain ⟨r, hr, rfl, hPt, hBt⟩ := hrel
                      rename World => wx
                      clear hPr hBr
                      by_cases hrn : r < n
                      · have hri : (r : Int) < (n : Int) := by omega
                        have hcr := hPt.l.cell hrn
                        have hby := hPt.l.byte hrn hcn
                        by_cases hrc : r = c
                        · have hnb : ((r : Int) != (c : Int)) = false := by simp; omega
                          have HV := Lib.hid (clearPAt_same c V V (.inl hrc))
                          have HUU := Lib.hid (clearPAt_same c V U (.inl hrc))
                          clear hrc
                          go_wp2_with fail
                          exact ⟨⟨r + 1, by omega, by go_num, by rw [← HV.out, ← HUU.out]; exact hPt, hBt⟩, by simp [intOf]; omega⟩
                        · have hnb : ((r : Int) != (c : Int)) = true := by simp; omega
                          rw [clearPAt_x c V hrc] at hby
                          by_cases hx : V r c = 0#8
                          · have HV := Lib.hid (clearPAt_same c V V (i := r) (.inr hx))
                            have HUU := Lib.hid (clearPAt_same c V U (i := r) (.inr hx))
                            rw [hx] at hby
                            clear hx hrc
                            go_wp2_with fail
                            exact ⟨⟨r + 1, by omega, by go_num, by rw [← HV.out, ← HUU.out]; exact hPt, hBt⟩, by simp [intOf]; omega⟩
                          · have hne : (((V r c).toNat : Int) != 0) = true := by rw [bne, byte_eq0 hx]; rfl
                            have HV := Lib.hid (clearPAt_step c V V hrc)
                            have HUU := Lib.hid (clearPAt_step c V U hrc)
                            have hHrc := Lib.hid hrc
                            clear hrc hx
                            generalize V r c = x at *
                            go_wp2_with fail
                            have hPE : Pair wx.drew w.heap.size gL cap b1 p1 gO c1 b2 p2 n (clearPAt c V V r) (clearPAt c V U r) := hPt.below (belowN 1 : Below wx.heap.size wx (wx.drewN 1))
                            have hBE : Below w.heap.size w wx.drew := hBt.trans ((belowN 1 : Below wx.heap.size wx (wx.drewN 1)).mono hBt.size)
                            refine wp_region_held_drew (S := fun w' => w'.cell? ⟨gL, r, none⟩ = some (.slice (some ⟨b1 r, 0, none⟩) n (p1 r)) ∧ w'.cell? ⟨gL, c, none⟩ = some (.slice (some ⟨b1 c, 0, none⟩) n (p1 c))) (by kernel_rfl) ⟨hPE.l.cell hrn, hPE.l.cell hcn⟩ (fun hHeld => ?_)
                            generalize wx.drew = WE at *
                            clear hPt hBt hcr hby
                            have hcr := hPE.l.cell hrn
                            have hcc := hPE.l.cell hcn
                            have hbne : b1 c ≠ b1 r := fun he => hHrc.out (hPE.l.inj c r hcn hrn he).symm
                            refine wpAnyH_take (i := 0) (v := ?_) rfl (by kernel_rfl) (by kernel_rfl) (by kernel_rfl) (fun _ _ _ h => h) (Or.inl ⟨by rfl, ?_⟩) (by assumption) ?_; rotate_left; (intro w hSw; (try dsimp only at hSw); go_simp; (first | done | (with_reducible rfl))); (try simp only [List.getElem_toArray, List.getElem_cons_succ, List.getElem_cons_zero, Act.put, List.setIfInBounds_toArray, List.set_cons_zero, List.set_cons_succ])
                            refine wpAnyH_take (i := 1) (v := ?_) rfl (by kernel_rfl) (by kernel_rfl) (by kernel_rfl) (fun _ _ _ h => h) (Or.inl ⟨by rfl, ?_⟩) (by assumption) ?_; rotate_left; (intro w hSw; (try dsimp only at hSw); go_simp; (first | done | (with_reducible rfl))); (try simp only [List.getElem_toArray, List.getElem_cons_succ, List.getElem_cons_zero, Act.put, List.setIfInBounds_toArray, List.set_cons_zero, List.set_cons_succ])
                            refine wpAnyH_take (i := 4) (v := ?_) rfl (by kernel_rfl) (by kernel_rfl) (by kernel_rfl) (fun _ _ _ h => h) (Or.inl ⟨by rfl, ?_⟩) (by assumption) ?_; rotate_left; (intro w hSw; (try dsimp only at hSw); go_simp; (first | done | (with_reducible rfl))); (try simp only [List.getElem_toArray, List.getElem_cons_succ, List.getElem_cons_zero, Act.put, List.setIfInBounds_toArray, List.set_cons_zero, List.set_cons_succ])
                            refine wpAnyH_take (i := 5) (v := ?_) rfl (by kernel_rfl) (by kernel_rfl) (by kernel_rfl) (fun _ _ _ h => h) (Or.inl ⟨by rfl, ?_⟩) (by assumption) ?_; rotate_left; (intro w hSw; (try dsimp only at hSw); go_simp; (first | done | (with_reducible rfl))); (try simp only [List.getElem_toArray, List.getElem_cons_succ, List.getElem_cons_zero, Act.put, List.setIfInBounds_toArray, List.set_cons_zero, List.set_cons_succ])
                            refine wpAnyH_take (i := 8) (v := ?_) rfl (by kernel_rfl) (by kernel_rfl) (by kernel_rfl) (fun _ _ _ h => h) (Or.inl ⟨by rfl, ?_⟩) (by assumption) ?_; rotate_left; (intro w hSw; (try dsimp only at hSw); go_simp; (first | done | (with_reducible rfl))); (try simp only [List.getElem_toArray, List.getElem_cons_succ, List.getElem_cons_zero, Act.put, List.setIfInBounds_toArray, List.set_cons_zero, List.set_cons_succ])
                            refine wpAnyH_take (i := 2) (v := ?_) rfl (by kernel_rfl) (by kernel_rfl) (by kernel_rfl) (fun _ _ _ h => h) (Or.inl ⟨by rfl, ?_⟩) (by assumption) ?_; rotate_left; (intro w hSw; (try dsimp only at hSw); go_simp; (first | done | (with_reducible rfl))); (try simp only [List.getElem_toArray, List.getElem_cons_succ, List.getElem_cons_zero, Act.put, List.setIfInBounds_toArray, List.set_cons_zero, List.set_cons_succ])
                            refine wpAnyH_take (i := 6) (v := ?_) rfl (by kernel_rfl) (by kernel_rfl) (by kernel_rfl) (fun _ _ _ h => h) (Or.inl ⟨by rfl, ?_⟩) (by assumption) ?_; rotate_left; (intro w hSw; (try dsimp only at hSw); go_simp; (first | done | (with_reducible rfl))); (try simp only [List.getElem_toArray, List.getElem_cons_succ, List.getElem_cons_zero, Act.put, List.setIfInBounds_toArray, List.set_cons_zero, List.set_cons_succ])
                            refine wpAnyH_take (i := 3) (v := ?_) rfl (by kernel_rfl) (by kernel_rfl) (by kernel_rfl) (fun _ _ _ h => h) (Or.inl ⟨by rfl, ?_⟩) (by assumption) ?_; rotate_left; (intro w hSw; (try dsimp only at hSw); go_simp; (first | done | (with_reducible rfl))); (try simp only [List.getElem_toArray, List.getElem_cons_succ, List.getElem_cons_zero, Act.put, List.setIfInBounds_toArray, List.set_cons_zero, List.set_cons_succ])
                            refine wpAnyH_take (i := 7) (v := ?_) rfl (by kernel_rfl) (by kernel_rfl) (by kernel_rfl) (fun _ _ _ h => h) (Or.inl ⟨by rfl, ?_⟩) (by assumption) ?_; rotate_left; (intro w hSw; (try dsimp only at hSw); go_simp; (first | done | (with_reducible rfl))); (try simp only [List.getElem_toArray, List.getElem_cons_succ, List.getElem_cons_zero, Act.put, List.setIfInBounds_toArray, List.set_cons_zero, List.set_cons_succ])
                            refine wpAnyH_ready (rs := [9]) (by kernel_rfl) (by simp) ?_; refine AllReadyH.cons rfl (fun K hK => ?_) AllReadyH.nil
                            go_simp
                            refine (radd_calls (hPE.l.row r hrn) (hPE.l.rowAt hcn) (fun b off he => by cases he; exact hbne) (by omega)).mono ?_
                            rintro e w8 ⟨rfl, hg8, hr8⟩
                            go_wp2_with fail
                            have hgr := hg8.cell hcr (by simpa using Ne.symm (hPE.l.ne hrn))
                            have hgc := hg8.cell hcc (by simpa using Ne.symm (hPE.l.ne hrn))
                            refine hK.out _ _ ⟨hgr, hgc⟩ (fun hHeld => ?_)
                            clear hK K
                            (try simp only [List.getElem_toArray, List.getElem_cons_succ, List.getElem_cons_zero, Act.put, List.setIfInBounds_toArray, List.set_cons_zero, List.set_cons_succ])
                            refine wpAnyH_done (by kernel_rfl) ?_ _
                            have hP2 := hPE.chgL hrn hg8 hr8
                            rw [HV.out] at hP2
                            have hB2 := hBE.trans (below_of_grown hg8 hBE.size (by intro t ht; cases ht; exact (hPE.l.ltB hrn).1))
                            clear hPE hBE hg8 hr8 hHeld hcr hcc hbne hgr hgc
                            go_wp2_with fail
                            have hPE : Pair w8.drew w.heap.size gL cap b1 p1 gO c1 b2 p2 n (clearPAt c V V (r + 1)) (clearPAt c V U r) := hP2.below (belowN 1 : Below w8.heap.size w8 (w8.drewN 1))
                            have hBE : Below w.heap.size w w8.drew := hB2.trans ((belowN 1 : Below w8.heap.size w8 (w8.drewN 1)).mono hB2.size)
                            refine wp_region_held_drew (S := fun w' => w'.cell? ⟨gO, r, none⟩ = some (.slice (some ⟨b2 r, 0, none⟩) n (p2 r)) ∧ w'.cell? ⟨gO, c, none⟩ = some (.slice (some ⟨b2 c, 0, none⟩) n (p2 c))) (by kernel_rfl) ⟨hPE.o.cell hrn, hPE.o.cell hcn⟩ (fun hHeld => ?_)
                            generalize w8.drew = WE at *
                            clear hP2 hB2
                            have hcr := hPE.o.cell hrn
                            have hcc := hPE.o.cell hcn
                            have hbne : b2 c ≠ b2 r := fun he => hHrc.out (hPE.o.inj c r hcn hrn he).symm
                            refine wpAnyH_take (i := 0) (v := ?_) rfl (by kernel_rfl) (by kernel_rfl) (by kernel_rfl) (fun _ _ _ h => h) (Or.inl ⟨by rfl, ?_⟩) (by assumption) ?_; rotate_left; (intro w hSw; (try dsimp only at hSw); go_simp; (first | done | (with_reducible rfl))); (try simp only [List.getElem_toArray, List.getElem_cons_succ, List.getElem_cons_zero, Act.put, List.setIfInBounds_toArray, List.set_cons_zero, List.set_cons_succ])
                            refine wpAnyH_take (i := 1) (v := ?_) rfl (by kernel_rfl) (by kernel_rfl) (by kernel_rfl) (fun _ _ _ h => h) (Or.inl ⟨by rfl, ?_⟩) (by assumption) ?_; rotate_left; (intro w hSw; (try dsimp only at hSw); go_simp; (first | done | (with_reducible rfl))); (try simp only [List.getElem_toArray, List.getElem_cons_succ, List.getElem_cons_zero, Act.put, List.setIfInBounds_toArray, List.set_cons_zero, List.set_cons_succ])
                            refine wpAnyH_take (i := 4) (v := ?_) rfl (by kernel_rfl) (by kernel_rfl) (by kernel_rfl) (fun _ _ _ h => h) (Or.inl ⟨by rfl, ?_⟩) (by assumption) ?_; rotate_left; (intro w hSw; (try dsimp only at hSw); go_simp; (first | done | (with_reducible rfl))); (try simp only [List.getElem_toArray, List.getElem_cons_succ, List.getElem_cons_zero, Act.put, List.setIfInBounds_toArray, List.set_cons_zero, List.set_cons_succ])
                            refine wpAnyH_take (i := 5) (v := ?_) rfl (by kernel_rfl) (by kernel_rfl) (by kernel_rfl) (fun _ _ _ h => h) (Or.inl ⟨by rfl, ?_⟩) (by assumption) ?_; rotate_left; (intro w hSw; (try dsimp only at hSw); go_simp; (first | done | (with_reducible rfl))); (try simp only [List.getElem_toArray, List.getElem_cons_succ, List.getElem_cons_zero, Act.put, List.setIfInBounds_toArray, List.set_cons_zero, List.set_cons_succ])
                            refine wpAnyH_take (i := 8) (v := ?_) rfl (by kernel_rfl) (by kernel_rfl) (by kernel_rfl) (fun _ _ _ h => h) (Or.inl ⟨by rfl, ?_⟩) (by assumption) ?_; rotate_left; (intro w hSw; (try dsimp only at hSw); go_simp; (first | done | (with_reducible rfl))); (try simp only [List.getElem_toArray, List.getElem_cons_succ, List.getElem_cons_zero, Act.put, List.setIfInBounds_toArray, List.set_cons_zero, List.set_cons_succ])
                            refine wpAnyH_take (i := 2) (v := ?_) rfl (by kernel_rfl) (by kernel_rfl) (by kernel_rfl) (fun _ _ _ h => h) (Or.inl ⟨by rfl, ?_⟩) (by assumption) ?_; rotate_left; (intro w hSw; (try dsimp only at hSw); go_simp; (first | done | (with_reducible rfl))); (try simp only [List.getElem_toArray, List.getElem_cons_succ, List.getElem_cons_zero, Act.put, List.setIfInBounds_toArray, List.set_cons_zero, List.set_cons_succ])
                            refine wpAnyH_take (i := 6) (v := ?_) rfl (by kernel_rfl) (by kernel_rfl) (by kernel_rfl) (fun _ _ _ h => h) (Or.inl ⟨by rfl, ?_⟩) (by assumption) ?_; rotate_left; (intro w hSw; (try dsimp only at hSw); go_simp; (first | done | (with_reducible rfl))); (try simp only [List.getElem_toArray, List.getElem_cons_succ, List.getElem_cons_zero, Act.put, List.setIfInBounds_toArray, List.set_cons_zero, List.set_cons_succ])
                            refine wpAnyH_take (i := 3) (v := ?_) rfl (by kernel_rfl) (by kernel_rfl) (by kernel_rfl) (fun _ _ _ h => h) (Or.inl ⟨by rfl, ?_⟩) (by assumption) ?_; rotate_left; (intro w hSw; (try dsimp only at hSw); go_simp; (first | done | (with_reducible rfl))); (try simp only [List.getElem_toArray, List.getElem_cons_succ, List.getElem_cons_zero, Act.put, List.setIfInBounds_toArray, List.set_cons_zero, List.set_cons_succ])
                            refine wpAnyH_take (i := 7) (v := ?_) rfl (by kernel_rfl) (by kernel_rfl) (by kernel_rfl) (fun _ _ _ h => h) (Or.inl ⟨by rfl, ?_⟩) (by assumption) ?_; rotate_left; (intro w hSw; (try dsimp only at hSw); go_simp; (first | done | (with_reducible rfl))); (try simp only [List.getElem_toArray, List.getElem_cons_succ, List.getElem_cons_zero, Act.put, List.setIfInBounds_toArray, List.set_cons_zero, List.set_cons_succ])
                            refine wpAnyH_ready (rs := [9]) (by kernel_rfl) (by simp) ?_; refine AllReadyH.cons rfl (fun K hK => ?_) AllReadyH.nil
                            go_simp
                            refine (radd_calls (hPE.o.row r hrn) (hPE.o.rowAt hcn) (fun b off he => by cases he; exact hbne) (by omega)).mono ?_
                            rintro e w8 ⟨rfl, hg8, hr8⟩
                            go_wp2_with fail
                            have hgr := hg8.cell hcr (by simpa using Ne.symm (hPE.o.ne hrn))
                            have hgc := hg8.cell hcc (by simpa using Ne.symm (hPE.o.ne hrn))
                            refine hK.out _ _ ⟨hgr, hgc⟩ (fun hHeld => ?_)
                            clear hK K
                            (try simp only [List.getElem_toArray, List.getElem_cons_succ, List.getElem_cons_zero, Act.put, List.setIfInBounds_toArray, List.set_cons_zero, List.set_cons_succ])
                            refine wpAnyH_done (by kernel_rfl) ?_ _
                            have hP2 := hPE.chgO hrn hg8 hr8
                            rw [HUU.out] at hP2
                            have hB2 := hBE.trans (below_of_grown hg8 hBE.size (by intro t ht; cases ht; exact (hPE.o.ltB hrn).1))
                            go_wp2_with fail
                            exact ⟨⟨r + 1, by omega, by go_num, hP2, hB2⟩, by simp [intOf]; omega⟩
                      · obtain rfl : n = r := by omega
                        go_wp2_with fail
                        exact ⟨⟨c + 1, b1, p1, b2, p2, clearP c V V, clearP c V U, by omega, by go_num, hPt.congr (clearPAt_end c n V V) (clearPAt_end c n V U), hBt, by have := HPIV.out.symm; rwa [← sideW_clear hcn, show n - c - 1 = n - (c + 1) by omega] at this⟩, by simp [intOf]; omega⟩
            · obtain rfl : n = p := by omega
              have HN := Lib.hid (inv_pair_none (HE.out.symm.trans (by rw [show n - c = (n - c - 1) + 1 by omega]; exact elim_none ((pivot_side hcn L O).trans (pivot_no HZ.out)))))
              go_wp2_with fail
              go_ret2
              obtain ⟨e1, e2⟩ := HNone.out HN.out
              rw [e1, e2]
              exact ⟨none, 0, [], rfl, At.nil _ _, Texts.nil _, hBw⟩
        · obtain rfl : n = c := by omega
          have HS := Lib.hid (inv_pair_some (HE.out.symm.trans (by rw [Nat.sub_self]; rfl)))
          clear hc hcn
          go_wp2_with fail
          go_ret2
          obtain ⟨R, hR, hEq⟩ := HS.out
          obtain ⟨e1, e2⟩ := HSome.out R hR
          rw [e1, e2]
          exact ⟨_, c1, headsC bO pO n n, by simp, hP.o.at, by rw [← rowsL_congr hEq]; exact hP.o.texts (by omega), hBw⟩

end Go.Proofs.YtibidlgikecelaaDoor
