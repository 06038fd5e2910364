/- Contract: the law ReedDecodes. -/
import Derived.Test.YtibidlgikecelaaDoorT26
namespace Go.Proofs.YtibidlgikecelaaDoor
open Go.RowKit
set_option linter.unusedVariables false
set_option linter.unusedSimpArgs false

theorem small_lens (LL : List (List B8)) : ∀ l, l ∈ smallL LL → l.length ≤ 1000 := by
  intro l hl
  unfold smallL at hl
  obtain ⟨x, _, rfl⟩ := List.mem_map.1 hl
  simp; omega

set_option maxHeartbeats 4000000 in
set_option maxRecDepth 100000 in
theorem reedDecodes_calls {w : World} {K M i : Int} {A : Option Addr} {n c : Nat} {vs : List Value} {LL : List (List B8)} (hA : At w A vs) (hT : Texts w vs LL) (hn : n = LL.length) (hmax : n ≤ 5864062014634) (hc : n ≤ c) (hF : FoldAt w) :
    Calls Tryd.prog 20 #[.agg #[.int .i64 K, .int .i64 M], .slice A n c, .int .i64 i] w (RetV w (.bool true)) := by
  obtain ⟨wa, hwa, hb1, hk0, hk1, hs1⟩ := code_box w K M
  have HWA := Lib.hid hwa
  clear hwa
  have HSM := Lib.hid (small_calls (K := K) (M := M) (hA.below hb1) (hT.below hb1) hn hmax hc)
  have HFF := Lib.hid hF
  have hlt0 := block_lt hk0
  clear hA hT hn hmax hc hF
  go_enter Tryd.func20, Tryd.ntmps20
  go_wp2_with fail
  have hwa := HWA.out
  rw [← hwa]
  clear hwa HWA
  refine HSM.out.mono ?_
  rintro e w1 ⟨A1, c1, x1, rfl, hO1, hb⟩
  have HB := hb1.trans (hb.mono hb1.size)
  have k0 := (hb.cell (p := ⟨w.heap.size, 0, none⟩) (block_lt hk0)).trans hk0
  have k1 := (hb.cell (p := ⟨w.heap.size, 1, none⟩) (block_lt hk1)).trans hk1
  have X := hO1.l
  have hc1 := own_le hO1.own
  have HSL := Lib.hid (small_len LL)
  have HSN := Lib.hid (small_lens LL)
  generalize smallL LL = L at *
  have HT := Lib.hid (texts_calls (c := c1) hO1.at hO1.texts rfl (by have := HSL.out; omega))
  clear hO1 HSM hb hk0 hk1 hb1
  go_wp2_with fail
  refine HT.out.mono ?_
  rintro e w2 ⟨A2, c2, x2, rfl, hO2, hb⟩
  have Y := hO2.l
  have hc2 := own_le hO2.own
  replace X := X.below hb
  replace HB := HB.trans (hb.mono HB.size)
  replace k0 := (hb.cell (p := ⟨w.heap.size, 0, none⟩) (block_lt k0)).trans k0
  replace k1 := (hb.cell (p := ⟨w.heap.size, 1, none⟩) (block_lt k1)).trans k1
  clear hO2 HT hb
  have HEN := Lib.hid (decode_x (K := K) (M := M) (cS := c2) Y rfl HSN.out (HFF.out.below HB))
  have HRE := Lib.hid (fun (w3 : World) (hb : Below w2.heap.size w2 w3) => rdecode_x (K := K) (M := M) (cS := c1) (X.below hb) rfl HSN.out (HFF.out.below (HB.trans (hb.mono HB.size))))
  have HRP := Lib.hid (fun (w3 : World) (hb : Below w2.heap.size w2 w3) => repair_x (K := K) (M := M) (i := i) (cS := c2) (Y.below hb) rfl HSN.out (HFF.out.below (HB.trans (hb.mono HB.size))))
  have HRR := Lib.hid (fun (w3 : World) (hb : Below w2.heap.size w2 w3) => rrepair_x (K := K) (M := M) (i := i) (cS := c1) (X.below hb) rfl HSN.out (HFF.out.below (HB.trans (hb.mono HB.size))))
  have HRT := Lib.hid (fun (w3 : World) (hb : Below w2.heap.size w2 w3) => right_x (K := K) (M := M) (cS := c2) (Y.below hb) rfl hc2 HSN.out (HFF.out.below (HB.trans (hb.mono HB.size))))
  have HRQ := Lib.hid (fun (w3 : World) (hb : Below w2.heap.size w2 w3) => rright_x (K := K) (M := M) (cS := c1) (X.below hb) rfl hc1 HSN.out)
  have HEL := Lib.hid (decL_le K M L)
  generalize decL K M L = P at *
  generalize decE K M L = E at *
  generalize repL K M L i = R at *
  generalize repE K M L i = G at *
  generalize rightB K M L = cb at *
  go_wp2_with fail
  refine HEN.out.mono ?_
  intro e w3 hr
  obtain ⟨A3, c3, rfl, Z, hb, hsp⟩ := hr.l
  have HSP := Lib.hid hsp
  replace k0 := (hb.cell (p := ⟨w.heap.size, 0, none⟩) (block_lt k0)).trans k0
  replace k1 := (hb.cell (p := ⟨w.heap.size, 1, none⟩) (block_lt k1)).trans k1
  have h23 := hb
  clear hr hsp HEN hb
  go_wp2_with fail
  refine (HRE.out w3 h23).mono ?_
  rintro e w4 ⟨A4, c4, rfl, Q, hb⟩
  have Z4 := Z.below hb
  have h24 := h23.trans (hb.mono h23.size)
  have h34 := hb
  replace k0 := (hb.cell (p := ⟨w.heap.size, 0, none⟩) (block_lt k0)).trans k0
  replace k1 := (hb.cell (p := ⟨w.heap.size, 1, none⟩) (block_lt k1)).trans k1
  clear HRE hb Z h23
  go_wp2_with fail
  refine (HRP.out w4 h24).mono ?_
  rintro e w5 ⟨A5, c5, rfl, V, hb⟩
  have Z5 := Z4.below hb
  have Q5 := Q.below hb
  have h25 := h24.trans (hb.mono h24.size)
  have h35 := h34.trans (hb.mono h34.size)
  replace k0 := (hb.cell (p := ⟨w.heap.size, 0, none⟩) (block_lt k0)).trans k0
  replace k1 := (hb.cell (p := ⟨w.heap.size, 1, none⟩) (block_lt k1)).trans k1
  clear HRP hb Z4 Q h24 h34
  go_wp2_with fail
  refine (HRR.out w5 h25).mono ?_
  rintro e w6 ⟨A6, c6, rfl, U, hb⟩
  have Z6 := Z5.below hb
  have Q6 := Q5.below hb
  have V6 := V.below hb
  have h26 := h25.trans (hb.mono h25.size)
  have h36 := h35.trans (hb.mono h35.size)
  replace k0 := (hb.cell (p := ⟨w.heap.size, 0, none⟩) (block_lt k0)).trans k0
  replace k1 := (hb.cell (p := ⟨w.heap.size, 1, none⟩) (block_lt k1)).trans k1
  clear HRR hb Z5 Q5 V h25 h35
  have hee : (E != E) = false := by simp
  have hgg : (G != G) = false := by simp
  have hcc : (cb != cb) = false := by simp
  go_wp2_with fail
  have hD : Below w6.heap.size w6 w6.drew := (belowN 1 : Below w6.heap.size w6 (w6.drewN 1))
  have HS := Lib.hid (same_ll (a := c3) (b := c4) (Z6.below hD) (Q6.below hD) (Nat.le_trans HEL.out (by decide)))
  have HEQ := Lib.hid (equal_calls (c := c5) (d := c6) (V6.below hD) (U.below hD) rfl rfl)
  rw [decide_eq_true rfl] at HEQ
  have k0D : w6.drew.cell? ⟨w.heap.size, 0, none⟩ = some (.int .i64 K) := k0
  have k1D : w6.drew.cell? ⟨w.heap.size, 1, none⟩ = some (.int .i64 M) := k1
  replace h26 := h26.trans (hD.mono h26.size)
  replace h36 := h36.trans (hD.mono h36.size)
  refine wp_region_held_drew (S := fun w' => w'.cell? ⟨w.heap.size, 0, none⟩ = some (.int .i64 K) ∧ w'.cell? ⟨w.heap.size, 1, none⟩ = some (.int .i64 M)) (by kernel_rfl) ⟨k0D, k1D⟩ (fun hHeld => ?_)
  generalize w6.drew = w7 at *
  clear k0 k1 Z6 Q6 V6 U hD
  refine wpAnyH_take (i := 0) (v := ?_) rfl (by kernel_rfl) (by kernel_rfl) (by kernel_rfl) (fun _ _ _ h => h) (Or.inl ⟨by rfl, ?_⟩) (by assumption) ?_; rotate_left; (intro w hSw; (try dsimp only at hSw); go_simp; (first | done | (with_reducible rfl))); (try simp only [List.getElem_toArray, List.getElem_cons_succ, List.getElem_cons_zero, Act.put, List.setIfInBounds_toArray, List.set_cons_zero, List.set_cons_succ])
  refine wpAnyH_take (i := 1) (v := ?_) rfl (by kernel_rfl) (by kernel_rfl) (by kernel_rfl) (fun _ _ _ h => h) (Or.inl ⟨by rfl, ?_⟩) (by assumption) ?_; rotate_left; (intro w hSw; (try dsimp only at hSw); go_simp; (first | done | (with_reducible rfl))); (try simp only [List.getElem_toArray, List.getElem_cons_succ, List.getElem_cons_zero, Act.put, List.setIfInBounds_toArray, List.set_cons_zero, List.set_cons_succ])
  refine wpAnyH_take (i := 2) (v := ?_) rfl (by kernel_rfl) (by kernel_rfl) (by kernel_rfl) (fun _ _ _ h => h) (Or.inl ⟨by rfl, ?_⟩) (by assumption) ?_; rotate_left; (intro w hSw; (try dsimp only at hSw); go_simp; (first | done | (with_reducible rfl))); (try simp only [List.getElem_toArray, List.getElem_cons_succ, List.getElem_cons_zero, Act.put, List.setIfInBounds_toArray, List.set_cons_zero, List.set_cons_succ])
  refine wpAnyH_take (i := 3) (v := ?_) rfl (by kernel_rfl) (by kernel_rfl) (by kernel_rfl) (fun _ _ _ h => h) (Or.inl ⟨by rfl, ?_⟩) (by assumption) ?_; rotate_left; (intro w hSw; (try dsimp only at hSw); go_simp; (first | done | (with_reducible rfl))); (try simp only [List.getElem_toArray, List.getElem_cons_succ, List.getElem_cons_zero, Act.put, List.setIfInBounds_toArray, List.set_cons_zero, List.set_cons_succ])
  refine wpAnyH_take (i := 4) (v := ?_) rfl (by kernel_rfl) (by kernel_rfl) (by kernel_rfl) (fun _ _ _ h => h) (Or.inl ⟨by rfl, ?_⟩) (by assumption) ?_; rotate_left; (intro w hSw; (try dsimp only at hSw); go_simp; (first | done | (with_reducible rfl))); (try simp only [List.getElem_toArray, List.getElem_cons_succ, List.getElem_cons_zero, Act.put, List.setIfInBounds_toArray, List.set_cons_zero, List.set_cons_succ])
  refine wpAnyH_take (i := 5) (v := ?_) rfl (by kernel_rfl) (by kernel_rfl) (by kernel_rfl) (fun _ _ _ h => h) (Or.inl ⟨by rfl, ?_⟩) (by assumption) ?_; rotate_left; (intro w hSw; (try dsimp only at hSw); go_simp; (first | done | (with_reducible rfl))); (try simp only [List.getElem_toArray, List.getElem_cons_succ, List.getElem_cons_zero, Act.put, List.setIfInBounds_toArray, List.set_cons_zero, List.set_cons_succ])
  refine wpAnyH_take (i := 6) (v := ?_) rfl (by kernel_rfl) (by kernel_rfl) (by kernel_rfl) (fun _ _ _ h => h) (Or.inl ⟨by rfl, ?_⟩) (by assumption) ?_; rotate_left; (intro w hSw; (try dsimp only at hSw); go_simp; (first | done | (with_reducible rfl))); (try simp only [List.getElem_toArray, List.getElem_cons_succ, List.getElem_cons_zero, Act.put, List.setIfInBounds_toArray, List.set_cons_zero, List.set_cons_succ])
  refine wpAnyH_take (i := 7) (v := ?_) rfl (by kernel_rfl) (by kernel_rfl) (by kernel_rfl) (fun _ _ _ h => h) (Or.inl ⟨by rfl, ?_⟩) (by assumption) ?_; rotate_left; (intro w hSw; (try dsimp only at hSw); go_simp; (first | done | (with_reducible rfl))); (try simp only [List.getElem_toArray, List.getElem_cons_succ, List.getElem_cons_zero, Act.put, List.setIfInBounds_toArray, List.set_cons_zero, List.set_cons_succ])
  refine wpAnyH_take (i := 8) (v := ?_) rfl (by kernel_rfl) (by kernel_rfl) (by kernel_rfl) (fun _ _ _ h => h) (Or.inl ⟨by rfl, ?_⟩) (by assumption) ?_; rotate_left; (intro w hSw; (try dsimp only at hSw); go_simp; (first | done | (with_reducible rfl))); (try simp only [List.getElem_toArray, List.getElem_cons_succ, List.getElem_cons_zero, Act.put, List.setIfInBounds_toArray, List.set_cons_zero, List.set_cons_succ])
  refine wpAnyH_take (i := 9) (v := ?_) rfl (by kernel_rfl) (by kernel_rfl) (by kernel_rfl) (fun _ _ _ h => h) (Or.inl ⟨by rfl, ?_⟩) (by assumption) ?_; rotate_left; (intro w hSw; (try dsimp only at hSw); go_simp; (first | done | (with_reducible rfl))); (try simp only [List.getElem_toArray, List.getElem_cons_succ, List.getElem_cons_zero, Act.put, List.setIfInBounds_toArray, List.set_cons_zero, List.set_cons_succ])
  refine wpAnyH_take (i := 10) (v := ?_) rfl (by kernel_rfl) (by kernel_rfl) (by kernel_rfl) (fun _ _ _ h => h) (Or.inl ⟨by rfl, ?_⟩) (by assumption) ?_; rotate_left; (intro w hSw; (try dsimp only at hSw); go_simp; (first | done | (with_reducible rfl))); (try simp only [List.getElem_toArray, List.getElem_cons_succ, List.getElem_cons_zero, Act.put, List.setIfInBounds_toArray, List.set_cons_zero, List.set_cons_succ])
  refine wpAnyH_ready (rs := [11]) (by kernel_rfl) (by simp) ?_; refine AllReadyH.cons rfl (fun KK hKK => ?_) AllReadyH.nil
  go_simp
  refine HS.out.mono ?_
  rintro e w' ⟨rfl, rfl⟩
  go_wp2_with fail
  refine hKK.out _ _ ⟨k0D, k1D⟩ (fun hHeld => ?_)
  clear hKK KK
  (try simp only [List.getElem_toArray, List.getElem_cons_succ, List.getElem_cons_zero, Act.put, List.setIfInBounds_toArray, List.set_cons_zero, List.set_cons_succ])
  refine wpAnyH_take (i := 12) (v := ?_) rfl (by kernel_rfl) (by kernel_rfl) (by kernel_rfl) (fun _ _ _ h => h) (Or.inl ⟨by rfl, ?_⟩) (by assumption) ?_; rotate_left; (intro w hSw; (try dsimp only at hSw); go_simp; (first | done | (with_reducible rfl))); (try simp only [List.getElem_toArray, List.getElem_cons_succ, List.getElem_cons_zero, Act.put, List.setIfInBounds_toArray, List.set_cons_zero, List.set_cons_succ])
  refine wpAnyH_take (i := 13) (v := ?_) rfl (by kernel_rfl) (by kernel_rfl) (by kernel_rfl) (fun _ _ _ h => h) (Or.inl ⟨by rfl, ?_⟩) (by assumption) ?_; rotate_left; (intro w hSw; (try dsimp only at hSw); go_simp; (first | done | (with_reducible rfl))); (try simp only [List.getElem_toArray, List.getElem_cons_succ, List.getElem_cons_zero, Act.put, List.setIfInBounds_toArray, List.set_cons_zero, List.set_cons_succ])
  refine wpAnyH_take (i := 14) (v := ?_) rfl (by kernel_rfl) (by kernel_rfl) (by kernel_rfl) (fun _ _ _ h => h) (Or.inl ⟨by rfl, ?_⟩) (by assumption) ?_; rotate_left; (intro w hSw; (try dsimp only at hSw); go_simp; (first | done | (with_reducible rfl))); (try simp only [List.getElem_toArray, List.getElem_cons_succ, List.getElem_cons_zero, Act.put, List.setIfInBounds_toArray, List.set_cons_zero, List.set_cons_succ])
  refine wpAnyH_take (i := 15) (v := ?_) rfl (by kernel_rfl) (by kernel_rfl) (by kernel_rfl) (fun _ _ _ h => h) (Or.inl ⟨by rfl, ?_⟩) (by assumption) ?_; rotate_left; (intro w hSw; (try dsimp only at hSw); go_simp; (first | done | (with_reducible rfl))); (try simp only [List.getElem_toArray, List.getElem_cons_succ, List.getElem_cons_zero, Act.put, List.setIfInBounds_toArray, List.set_cons_zero, List.set_cons_succ])
  refine wpAnyH_take (i := 16) (v := ?_) rfl (by kernel_rfl) (by kernel_rfl) (by kernel_rfl) (fun _ _ _ h => h) (Or.inl ⟨by rfl, ?_⟩) (by assumption) ?_; rotate_left; (intro w hSw; (try dsimp only at hSw); go_simp; (first | done | (with_reducible rfl))); (try simp only [List.getElem_toArray, List.getElem_cons_succ, List.getElem_cons_zero, Act.put, List.setIfInBounds_toArray, List.set_cons_zero, List.set_cons_succ])
  refine wpAnyH_ready (rs := [17]) (by kernel_rfl) (by simp) ?_; refine AllReadyH.cons rfl (fun KK hKK => ?_) AllReadyH.nil
  go_simp
  refine HEQ.out.mono ?_
  rintro e w' ⟨rfl, rfl⟩
  go_wp2_with fail
  refine hKK.out _ _ ⟨k0D, k1D⟩ (fun hHeld => ?_)
  clear hKK KK
  (try simp only [List.getElem_toArray, List.getElem_cons_succ, List.getElem_cons_zero, Act.put, List.setIfInBounds_toArray, List.set_cons_zero, List.set_cons_succ])
  refine wpAnyH_take (i := 18) (v := ?_) rfl (by kernel_rfl) (by kernel_rfl) (by kernel_rfl) (fun _ _ _ h => h) (Or.inl ⟨by rfl, ?_⟩) (by assumption) ?_; rotate_left; (intro w hSw; (try dsimp only at hSw); go_simp; (first | done | (with_reducible rfl))); (try simp only [List.getElem_toArray, List.getElem_cons_succ, List.getElem_cons_zero, Act.put, List.setIfInBounds_toArray, List.set_cons_zero, List.set_cons_succ])
  refine wpAnyH_take (i := 19) (v := ?_) rfl (by kernel_rfl) (by kernel_rfl) (by kernel_rfl) (fun _ _ _ h => h) (Or.inl ⟨by rfl, ?_⟩) (by assumption) ?_; rotate_left; (intro w hSw; (try dsimp only at hSw); go_simp; (first | done | (with_reducible rfl))); (try simp only [List.getElem_toArray, List.getElem_cons_succ, List.getElem_cons_zero, Act.put, List.setIfInBounds_toArray, List.set_cons_zero, List.set_cons_succ])
  refine wpAnyH_take (i := 20) (v := ?_) rfl (by kernel_rfl) (by kernel_rfl) (by kernel_rfl) (fun _ _ _ h => h) (Or.inl ⟨by rfl, ?_⟩) (by assumption) ?_; rotate_left; (intro w hSw; (try dsimp only at hSw); go_simp; (first | done | (with_reducible rfl))); (try simp only [List.getElem_toArray, List.getElem_cons_succ, List.getElem_cons_zero, Act.put, List.setIfInBounds_toArray, List.set_cons_zero, List.set_cons_succ])
  refine wpAnyH_take (i := 21) (v := ?_) rfl (by kernel_rfl) (by kernel_rfl) (by kernel_rfl) (fun _ _ _ h => h) (Or.inl ⟨by rfl, ?_⟩) (by assumption) ?_; rotate_left; (intro w hSw; (try dsimp only at hSw); go_simp; (first | done | (with_reducible rfl))); (try simp only [List.getElem_toArray, List.getElem_cons_succ, List.getElem_cons_zero, Act.put, List.setIfInBounds_toArray, List.set_cons_zero, List.set_cons_succ])
  refine wpAnyH_take (i := 22) (v := ?_) rfl (by kernel_rfl) (by kernel_rfl) (by kernel_rfl) (fun _ _ _ h => h) (Or.inl ⟨by rfl, ?_⟩) (by assumption) ?_; rotate_left; (intro w hSw; (try dsimp only at hSw); go_simp; (first | done | (with_reducible rfl))); (try simp only [List.getElem_toArray, List.getElem_cons_succ, List.getElem_cons_zero, Act.put, List.setIfInBounds_toArray, List.set_cons_zero, List.set_cons_succ])
  refine wpAnyH_take (i := 24) (v := ?_) rfl (by kernel_rfl) (by kernel_rfl) (by kernel_rfl) (fun _ _ _ h => h) (Or.inl ⟨by rfl, ?_⟩) (by assumption) ?_; rotate_left; (intro w hSw; (try dsimp only at hSw); go_simp; (first | done | (with_reducible rfl))); (try simp only [List.getElem_toArray, List.getElem_cons_succ, List.getElem_cons_zero, Act.put, List.setIfInBounds_toArray, List.set_cons_zero, List.set_cons_succ])
  refine wpAnyH_take (i := 25) (v := ?_) rfl (by kernel_rfl) (by kernel_rfl) (by kernel_rfl) (fun _ _ _ h => h) (Or.inl ⟨by rfl, ?_⟩) (by assumption) ?_; rotate_left; (intro w hSw; (try dsimp only at hSw); go_simp; (first | done | (with_reducible rfl))); (try simp only [List.getElem_toArray, List.getElem_cons_succ, List.getElem_cons_zero, Act.put, List.setIfInBounds_toArray, List.set_cons_zero, List.set_cons_succ])
  refine wpAnyH_ready (rs := [23]) (by kernel_rfl) (by simp) ?_; refine AllReadyH.cons rfl (fun KK hKK => ?_) AllReadyH.nil
  go_simp
  refine (HRT.out w7 h26).mono ?_
  rintro e w8 ⟨rfl, h78⟩
  go_wp2_with fail
  have k08 := (h78.cell (p := ⟨w.heap.size, 0, none⟩) (block_lt k0D)).trans k0D
  have k18 := (h78.cell (p := ⟨w.heap.size, 1, none⟩) (block_lt k1D)).trans k1D
  refine hKK.out _ _ ⟨k08, k18⟩ (fun hHeld => ?_)
  clear hKK KK
  (try simp only [List.getElem_toArray, List.getElem_cons_succ, List.getElem_cons_zero, Act.put, List.setIfInBounds_toArray, List.set_cons_zero, List.set_cons_succ])
  refine wpAnyH_ready (rs := [26]) (by kernel_rfl) (by simp) ?_; refine AllReadyH.cons rfl (fun KK hKK => ?_) AllReadyH.nil
  go_simp
  have h28 := h26.trans (h78.mono h26.size)
  refine (HRQ.out w8 h28).mono ?_
  rintro e w9 ⟨rfl, h89⟩
  go_wp2_with fail
  have k09 := (h89.cell (p := ⟨w.heap.size, 0, none⟩) (block_lt k08)).trans k08
  have k19 := (h89.cell (p := ⟨w.heap.size, 1, none⟩) (block_lt k18)).trans k18
  refine hKK.out _ _ ⟨k09, k19⟩ (fun hHeld => ?_)
  clear hKK KK
  (try simp only [List.getElem_toArray, List.getElem_cons_succ, List.getElem_cons_zero, Act.put, List.setIfInBounds_toArray, List.set_cons_zero, List.set_cons_succ])
  refine wpAnyH_take (i := 27) (v := ?_) rfl (by kernel_rfl) (by kernel_rfl) (by kernel_rfl) (fun _ _ _ h => h) (Or.inl ⟨by rfl, ?_⟩) (by assumption) ?_; rotate_left; (intro w hSw; (try dsimp only at hSw); go_simp; (first | done | (with_reducible rfl))); (try simp only [List.getElem_toArray, List.getElem_cons_succ, List.getElem_cons_zero, Act.put, List.setIfInBounds_toArray, List.set_cons_zero, List.set_cons_succ])
  refine wpAnyH_take (i := 28) (v := ?_) rfl (by kernel_rfl) (by kernel_rfl) (by kernel_rfl) (fun _ _ _ h => h) (Or.inl ⟨by rfl, ?_⟩) (by assumption) ?_; rotate_left; (intro w hSw; (try dsimp only at hSw); go_simp; (first | done | (with_reducible rfl))); (try simp only [List.getElem_toArray, List.getElem_cons_succ, List.getElem_cons_zero, Act.put, List.setIfInBounds_toArray, List.set_cons_zero, List.set_cons_succ])
  refine wpAnyH_done (by kernel_rfl) ?_ _
  have h79 := h78.trans (h89.mono h78.size)
  have HSP9 := Lib.hid (HSP.out w9 (h36.trans (h79.mono h36.size)))
  have h29 := h26.trans (h79.mono h26.size)
  clear HS HEQ HRT HRQ k0D k1D k08 k18 k09 k19 HSP h36 h26 h78 h89 h79 h28
  go_wp2_with fail
  refine HSP9.out.mono ?_
  rintro e w10 ⟨rfl, h910⟩
  have h210 := h29.trans h910
  have HS := Lib.hid (same_ll (a := c2) (b := c1) (Y.below h210) (X.below h210) (by have := HSL.out; omega))
  have HB10 := HB.trans (h210.mono HB.size)
  clear HSP9 h29 h910
  go_wp2_with fail
  refine HS.out.mono ?_
  rintro e w' ⟨rfl, rfl⟩
  go_wp2_with fail
  refine (can_calls (K := 1) (M := 0) (by decide) (by decide)).mono ?_
  rintro e w11 ⟨rfl, h11⟩
  go_wp2_with fail
  go_ret
  exact ⟨rfl, HB10.trans (h11.mono HB10.size)⟩

end Go.Proofs.YtibidlgikecelaaDoor
