/- Contract: the law ReedEncodes. -/
import Derived.Test.YtibidlgikecelaaDoorT19
import Derived.Test.YtibidlgikecelaaDoorT13
namespace Go.Proofs.YtibidlgikecelaaDoor
open Go.RowKit
set_option linter.unusedVariables false
set_option linter.unusedSimpArgs false

theorem RetOw.l {w : World} {LL : List (List B8)} {k : Int} {e : Ending} {w' : World} (h : RetOw w LL k e w') : ∃ A cap, e = .returned (.tuple #[.slice A LL.length cap, .int .i64 k]) ∧ LAt w' A LL ∧ Below w.heap.size w w' ∧
    ∀ w2, Below w'.heap.size w' w2 → Calls Tryd.prog 37 #[.slice A LL.length cap] w2 fun e w3 => e = .returned (.tuple #[]) ∧ Below w.heap.size w2 w3 := by
  rcases h with ⟨k', ⟨h1, h2⟩, rfl, rfl⟩ | ⟨r, c, M, h1, h2, rfl, rfl, A, cap, blk, h4, h5, h6⟩
  · exact ⟨none, 0, h1, ⟨[], At.nil _ _, Texts.nil _⟩, h2, fun w2 hb => (spoil_nil).mono fun e w3 ⟨h, k⟩ => ⟨h, k.mono (Nat.le_trans h2.size hb.size)⟩⟩
  · refine ⟨A, cap, by rw [h4]; simp, ⟨_, h5.at, h5.texts (by omega)⟩, h6, fun w2 hb => ?_⟩
    rw [length_rowsL]
    exact spoil_own (h5.below hb) h1 h2

set_option maxHeartbeats 2000000 in
set_option maxRecDepth 100000 in
theorem reedEncodes_calls {w : World} {K M : Int} {A : Option Addr} {n c : Nat} {vs : List Value} {LL : List (List B8)} (hA : At w A vs) (hT : Texts w vs LL) (hn : n = LL.length) (hmax : n ≤ 5864062014634) (hc : n ≤ c) (hF : FoldAt w) :
    Calls Tryd.prog 8 #[.agg #[.int .i64 K, .int .i64 M], .slice A n c] w (RetV w (.bool true)) := by
  obtain ⟨wa, hwa, hb1, hk0, hk1, hs1⟩ := code_box w K M
  have HWA := Lib.hid hwa
  clear hwa
  have HSM := Lib.hid (small_calls (K := K) (M := M) (hA.below hb1) (hT.below hb1) hn hmax hc)
  have HFF := Lib.hid hF
  have hlt0 := block_lt hk0
  clear hA hT hn hmax hc hF
  go_enter Tryd.func8, Tryd.ntmps8
  go_wp2_with fail
  have hwa := HWA.out
  rw [← hwa]
  clear hwa HWA
  refine HSM.out.mono ?_
  rintro e w1 ⟨A1, c1, x1, rfl, hO1, hb⟩
  have HB := hb1.trans (hb.mono hb1.size)
  have k0 := (hb.cell (p := ⟨w.heap.size, 0, none⟩) (block_lt hk0)).trans hk0
  have k1 := (hb.cell (p := ⟨w.heap.size, 1, none⟩) (block_lt hk1)).trans hk1
  have X := hO1.l
  have HSL := Lib.hid (small_len LL)
  have HSW := Lib.hid (small_wid LL)
  generalize smallL LL = L at *
  have HT := Lib.hid (texts_calls (c := c1) hO1.at hO1.texts rfl (by have := HSL.out; omega))
  clear hO1 HSM hb hk0 hk1 hb1
  go_wp2_with fail
  refine HT.out.mono ?_
  rintro e w2 ⟨A2, c2, x2, rfl, hO2, hb⟩
  have Y := hO2.l
  replace X := X.below hb
  replace HB := HB.trans (hb.mono HB.size)
  replace k0 := (hb.cell (p := ⟨w.heap.size, 0, none⟩) (block_lt k0)).trans k0
  replace k1 := (hb.cell (p := ⟨w.heap.size, 1, none⟩) (block_lt k1)).trans k1
  clear hO2 HT hb
  have HEN := Lib.hid (encode_x (K := K) (M := M) (cS := c2) Y rfl (by have := HSL.out; omega) (by have := HSW.out; omega) (HFF.out.below HB))
  have HRE := Lib.hid (fun (w3 : World) (hb : Below w2.heap.size w2 w3) => rencode_x (K := K) (M := M) (cS := c1) (X.below hb) rfl (by have := HSL.out; omega) (by have := HSW.out; omega))
  have HEL := Lib.hid (encL_len K M L)
  generalize encL K M L = P at *
  generalize encE K M L = E at *
  go_wp2_with fail
  refine HEN.out.mono ?_
  intro e w3 hr
  obtain ⟨A3, c3, rfl, Z, hb, hsp⟩ := hr.l
  have HSP := Lib.hid hsp
  have hB3 := HB.trans (hb.mono HB.size)
  replace k0 := (hb.cell (p := ⟨w.heap.size, 0, none⟩) (block_lt k0)).trans k0
  replace k1 := (hb.cell (p := ⟨w.heap.size, 1, none⟩) (block_lt k1)).trans k1
  have h23 := hb
  clear hr hsp HEN hb
  go_wp2_with fail
  refine (HRE.out w3 h23).mono ?_
  rintro e w4 ⟨A4, c4, rfl, Q, hb⟩
  have hee : (E != E) = false := by simp
  have h24 := h23.trans (hb.mono h23.size)
  replace k0 := (hb.cell (p := ⟨w.heap.size, 0, none⟩) (block_lt k0)).trans k0
  replace k1 := (hb.cell (p := ⟨w.heap.size, 1, none⟩) (block_lt k1)).trans k1
  have h34 := hb
  have Z4 := Z.below hb
  clear HRE hb Z hB3 h23
  go_wp2_with fail
  have hD : Below w4.heap.size w4 w4.drew := (belowN 1 : Below w4.heap.size w4 (w4.drewN 1))
  have HS := Lib.hid (same_ll (a := c3) (b := c4) (Z4.below hD) (Q.below hD) (Nat.le_trans HEL.out (by decide)))
  have k0D : w4.drew.cell? ⟨w.heap.size, 0, none⟩ = some (.int .i64 K) := k0
  have k1D : w4.drew.cell? ⟨w.heap.size, 1, none⟩ = some (.int .i64 M) := k1
  replace h24 := h24.trans (hD.mono h24.size)
  replace h34 := h34.trans (hD.mono h34.size)
  refine wp_region_held_drew (S := fun w' => w'.cell? ⟨w.heap.size, 0, none⟩ = some (.int .i64 K) ∧ w'.cell? ⟨w.heap.size, 1, none⟩ = some (.int .i64 M)) (by kernel_rfl) ⟨k0D, k1D⟩ (fun hHeld => ?_)
  generalize w4.drew = w5 at *
  clear k0 k1 Z4 Q hD
  have HC1 := fun W : World => Lib.hid (can_x (w := W) K M)
  have HC2 := fun W : World => Lib.hid (rcan_x (w := W) K M)
  generalize decide (codeB K M) = cb at *
  have hcc : (cb != cb) = false := by simp
  refine wpAnyH_take (i := 0) (v := ?_) rfl (by kernel_rfl) (by kernel_rfl) (by kernel_rfl) (fun _ _ _ h => h) (Or.inl ⟨by rfl, ?_⟩) (by assumption) ?_; rotate_left; (intro w hSw; (try dsimp only at hSw); go_simp; (first | done | (with_reducible rfl))); (try simp only [List.getElem_toArray, List.getElem_cons_succ, List.getElem_cons_zero, Act.put, List.setIfInBounds_toArray, List.set_cons_zero, List.set_cons_succ])
  refine wpAnyH_take (i := 1) (v := ?_) rfl (by kernel_rfl) (by kernel_rfl) (by kernel_rfl) (fun _ _ _ h => h) (Or.inl ⟨by rfl, ?_⟩) (by assumption) ?_; rotate_left; (intro w hSw; (try dsimp only at hSw); go_simp; (first | done | (with_reducible rfl))); (try simp only [List.getElem_toArray, List.getElem_cons_succ, List.getElem_cons_zero, Act.put, List.setIfInBounds_toArray, List.set_cons_zero, List.set_cons_succ])
  refine wpAnyH_take (i := 2) (v := ?_) rfl (by kernel_rfl) (by kernel_rfl) (by kernel_rfl) (fun _ _ _ h => h) (Or.inl ⟨by rfl, ?_⟩) (by assumption) ?_; rotate_left; (intro w hSw; (try dsimp only at hSw); go_simp; (first | done | (with_reducible rfl))); (try simp only [List.getElem_toArray, List.getElem_cons_succ, List.getElem_cons_zero, Act.put, List.setIfInBounds_toArray, List.set_cons_zero, List.set_cons_succ])
  refine wpAnyH_take (i := 3) (v := ?_) rfl (by kernel_rfl) (by kernel_rfl) (by kernel_rfl) (fun _ _ _ h => h) (Or.inl ⟨by rfl, ?_⟩) (by assumption) ?_; rotate_left; (intro w hSw; (try dsimp only at hSw); go_simp; (first | done | (with_reducible rfl))); (try simp only [List.getElem_toArray, List.getElem_cons_succ, List.getElem_cons_zero, Act.put, List.setIfInBounds_toArray, List.set_cons_zero, List.set_cons_succ])
  refine wpAnyH_take (i := 4) (v := ?_) rfl (by kernel_rfl) (by kernel_rfl) (by kernel_rfl) (fun _ _ _ h => h) (Or.inl ⟨by rfl, ?_⟩) (by assumption) ?_; rotate_left; (intro w hSw; (try dsimp only at hSw); go_simp; (first | done | (with_reducible rfl))); (try simp only [List.getElem_toArray, List.getElem_cons_succ, List.getElem_cons_zero, Act.put, List.setIfInBounds_toArray, List.set_cons_zero, List.set_cons_succ])
  refine wpAnyH_take (i := 5) (v := ?_) rfl (by kernel_rfl) (by kernel_rfl) (by kernel_rfl) (fun _ _ _ h => h) (Or.inl ⟨by rfl, ?_⟩) (by assumption) ?_; rotate_left; (intro w hSw; (try dsimp only at hSw); go_simp; (first | done | (with_reducible rfl))); (try simp only [List.getElem_toArray, List.getElem_cons_succ, List.getElem_cons_zero, Act.put, List.setIfInBounds_toArray, List.set_cons_zero, List.set_cons_succ])
  refine wpAnyH_ready (rs := [6]) (by kernel_rfl) (by simp) ?_; refine AllReadyH.cons rfl (fun KK hKK => ?_) AllReadyH.nil
  go_simp
  refine HS.out.mono ?_
  rintro e w' ⟨rfl, rfl⟩
  go_wp2_with fail
  refine hKK.out _ _ ⟨k0D, k1D⟩ (fun hHeld => ?_)
  clear hKK KK
  (try simp only [List.getElem_toArray, List.getElem_cons_succ, List.getElem_cons_zero, Act.put, List.setIfInBounds_toArray, List.set_cons_zero, List.set_cons_succ])
  refine wpAnyH_take (i := 7) (v := ?_) rfl (by kernel_rfl) (by kernel_rfl) (by kernel_rfl) (fun _ _ _ h => h) (Or.inl ⟨by rfl, ?_⟩) (by assumption) ?_; rotate_left; (intro w hSw; (try dsimp only at hSw); go_simp; (first | done | (with_reducible rfl))); (try simp only [List.getElem_toArray, List.getElem_cons_succ, List.getElem_cons_zero, Act.put, List.setIfInBounds_toArray, List.set_cons_zero, List.set_cons_succ])
  refine wpAnyH_take (i := 8) (v := ?_) rfl (by kernel_rfl) (by kernel_rfl) (by kernel_rfl) (fun _ _ _ h => h) (Or.inl ⟨by rfl, ?_⟩) (by assumption) ?_; rotate_left; (intro w hSw; (try dsimp only at hSw); go_simp; (first | done | (with_reducible rfl))); (try simp only [List.getElem_toArray, List.getElem_cons_succ, List.getElem_cons_zero, Act.put, List.setIfInBounds_toArray, List.set_cons_zero, List.set_cons_succ])
  refine wpAnyH_take (i := 9) (v := ?_) rfl (by kernel_rfl) (by kernel_rfl) (by kernel_rfl) (fun _ _ _ h => h) (Or.inl ⟨by rfl, ?_⟩) (by assumption) ?_; rotate_left; (intro w hSw; (try dsimp only at hSw); go_simp; (first | done | (with_reducible rfl))); (try simp only [List.getElem_toArray, List.getElem_cons_succ, List.getElem_cons_zero, Act.put, List.setIfInBounds_toArray, List.set_cons_zero, List.set_cons_succ])
  refine wpAnyH_take (i := 10) (v := ?_) rfl (by kernel_rfl) (by kernel_rfl) (by kernel_rfl) (fun _ _ _ h => h) (Or.inl ⟨by rfl, ?_⟩) (by assumption) ?_; rotate_left; (intro w hSw; (try dsimp only at hSw); go_simp; (first | done | (with_reducible rfl))); (try simp only [List.getElem_toArray, List.getElem_cons_succ, List.getElem_cons_zero, Act.put, List.setIfInBounds_toArray, List.set_cons_zero, List.set_cons_succ])
  refine wpAnyH_take (i := 12) (v := ?_) rfl (by kernel_rfl) (by kernel_rfl) (by kernel_rfl) (fun _ _ _ h => h) (Or.inl ⟨by rfl, ?_⟩) (by assumption) ?_; rotate_left; (intro w hSw; (try dsimp only at hSw); go_simp; (first | done | (with_reducible rfl))); (try simp only [List.getElem_toArray, List.getElem_cons_succ, List.getElem_cons_zero, Act.put, List.setIfInBounds_toArray, List.set_cons_zero, List.set_cons_succ])
  refine wpAnyH_ready (rs := [11]) (by kernel_rfl) (by simp) ?_; refine AllReadyH.cons rfl (fun KK hKK => ?_) AllReadyH.nil
  go_simp
  refine (HC1 _).out.mono ?_
  rintro e w6 ⟨rfl, h56⟩
  go_wp2_with fail
  have k06 := (h56.cell (p := ⟨w.heap.size, 0, none⟩) (block_lt k0D)).trans k0D
  have k16 := (h56.cell (p := ⟨w.heap.size, 1, none⟩) (block_lt k1D)).trans k1D
  refine hKK.out _ _ ⟨k06, k16⟩ (fun hHeld => ?_)
  clear hKK KK
  (try simp only [List.getElem_toArray, List.getElem_cons_succ, List.getElem_cons_zero, Act.put, List.setIfInBounds_toArray, List.set_cons_zero, List.set_cons_succ])
  refine wpAnyH_ready (rs := [13]) (by kernel_rfl) (by simp) ?_; refine AllReadyH.cons rfl (fun KK hKK => ?_) AllReadyH.nil
  go_simp
  refine (HC2 _).out.mono ?_
  rintro e w7 ⟨rfl, h67⟩
  go_wp2_with fail
  have k07 := (h67.cell (p := ⟨w.heap.size, 0, none⟩) (block_lt k06)).trans k06
  have k17 := (h67.cell (p := ⟨w.heap.size, 1, none⟩) (block_lt k16)).trans k16
  refine hKK.out _ _ ⟨k07, k17⟩ (fun hHeld => ?_)
  clear hKK KK
  (try simp only [List.getElem_toArray, List.getElem_cons_succ, List.getElem_cons_zero, Act.put, List.setIfInBounds_toArray, List.set_cons_zero, List.set_cons_succ])
  refine wpAnyH_take (i := 14) (v := ?_) rfl (by kernel_rfl) (by kernel_rfl) (by kernel_rfl) (fun _ _ _ h => h) (Or.inl ⟨by rfl, ?_⟩) (by assumption) ?_; rotate_left; (intro w hSw; (try dsimp only at hSw); go_simp; (first | done | (with_reducible rfl))); (try simp only [List.getElem_toArray, List.getElem_cons_succ, List.getElem_cons_zero, Act.put, List.setIfInBounds_toArray, List.set_cons_zero, List.set_cons_succ])
  refine wpAnyH_take (i := 15) (v := ?_) rfl (by kernel_rfl) (by kernel_rfl) (by kernel_rfl) (fun _ _ _ h => h) (Or.inl ⟨by rfl, ?_⟩) (by assumption) ?_; rotate_left; (intro w hSw; (try dsimp only at hSw); go_simp; (first | done | (with_reducible rfl))); (try simp only [List.getElem_toArray, List.getElem_cons_succ, List.getElem_cons_zero, Act.put, List.setIfInBounds_toArray, List.set_cons_zero, List.set_cons_succ])
  refine wpAnyH_done (by kernel_rfl) ?_ _
  have h57 := h56.trans (h67.mono h56.size)
  have HSP7 := Lib.hid (HSP.out w7 (h34.trans (h57.mono h34.size)))
  have h27 := h24.trans (h57.mono h24.size)
  clear HS HC1 HC2 k0D k1D k06 k16 k07 k17 HSP h34 h24 h56 h67 h57
  go_wp2_with fail
  refine HSP7.out.mono ?_
  rintro e w8 ⟨rfl, h78⟩
  have h28 := h27.trans h78
  have HS := Lib.hid (same_ll (a := c2) (b := c1) (Y.below h28) (X.below h28) (by have := HSL.out; omega))
  have HB8 := HB.trans (h28.mono HB.size)
  clear HSP7 h27 h78
  go_wp2_with fail
  refine HS.out.mono ?_
  rintro e w' ⟨rfl, rfl⟩
  go_wp2_with fail
  refine (can_calls (K := 1) (M := 0) (by decide) (by decide)).mono ?_
  rintro e w9 ⟨rfl, h89⟩
  go_wp2_with fail
  go_ret
  exact ⟨rfl, HB8.trans (h89.mono HB8.size)⟩

end Go.Proofs.YtibidlgikecelaaDoor
