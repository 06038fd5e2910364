/- Contract: the law StripeCuts. -/
import Derived.Test.YtibidlgikecelaaDoorT30
import Derived.Test.YtibidlgikecelaaDoorT20
namespace Go.Proofs.YtibidlgikecelaaDoor
open Go.RowKit
set_option linter.unusedVariables false
set_option linter.unusedSimpArgs false

/-- A code's box, filled anew. -/
theorem code_set {w1 : World} {b : Nat} {x y k m : Value} {A : Option Addr} {vs : List Value} (hrow : w1.heap[b]? = some (.cells #[x, y] 38 (0, 0))) (hX : At w1 A vs) (hne : ∀ g off, A = some ⟨g, off, none⟩ → g ≠ b) :
    ((w1.setCell ⟨b, 0, none⟩ k).setCell ⟨b, 1, none⟩ m).cell? ⟨b, 0, none⟩ = some k ∧ ((w1.setCell ⟨b, 0, none⟩ k).setCell ⟨b, 1, none⟩ m).cell? ⟨b, 1, none⟩ = some m ∧ At ((w1.setCell ⟨b, 0, none⟩ k).setCell ⟨b, 1, none⟩ m) A vs := by
  have h1 := heap_setCell_same w1 b 0 _ _ k hrow
  have h2 := heap_setCell_same _ b 1 _ _ m h1
  have e : (((#[x, y] : Array Value).setIfInBounds 0 k).setIfInBounds 1 m) = #[k, m] := rfl
  rw [e] at h2
  exact ⟨cell_of_row _ _ 0 _ _ (0, 0) h2, cell_of_row _ _ 1 _ _ (0, 0) h2, (hX.grown' (grown_set _ b 0 k) (fun g off h he => hne g off h (by injection he))).grown' (grown_set _ b 1 m) (fun g off h he => hne g off h (by injection he))⟩

set_option maxHeartbeats 2000000 in
set_option maxRecDepth 100000 in
theorem stripeCuts_calls {w : World} {K M s : Int} {A : Option Addr} {n c : Nat} {lb : List B8} (hA : At w A (bys lb)) (hn : n = lb.length) (hmax : lb.length ≤ 140737488351232) (hc : n ≤ c) (hnil : A = none → c = 0) (hF : FoldAt w) :
    Calls Tryd.prog 15 #[.agg #[.int .i64 K, .int .i64 M], .int .i64 s, .slice A n c] w (RetV w (.bool true)) := by
  subst hn
  obtain ⟨wa, hwa, hb1, hk0, hk1, hs1⟩ := code_box w K M
  have HWA := Lib.hid hwa
  have hrow : wa.heap[w.heap.size]? = some (.cells #[.int .i64 K, .int .i64 M] 38 (0, 0)) := by rw [hwa]; exact heap_alloc_new w _
  clear hwa
  have HCL := Lib.hid (clone_calls (w := wa) (c := c) (hA.below hb1) rfl hnil (by omega))
  have HA := Lib.hid hA
  have HFF := Lib.hid hF
  have HM := Lib.hid hmax
  have HNI := Lib.hid hnil
  have HCC := Lib.hid hc
  have hlt0 := block_lt hk0
  clear hA hF hmax hnil hc
  go_enter Tryd.func15, Tryd.ntmps15
  go_wp2_with fail
  have hwa := HWA.out
  rw [← hwa]
  clear hwa HWA
  refine HCL.out.mono ?_
  rintro e w1 ⟨A1, c1, rfl, hO1, hb⟩
  have HB := hb1.trans (hb.mono hb1.size)
  have k0 := (hb.cell (p := ⟨w.heap.size, 0, none⟩) (block_lt hk0)).trans hk0
  have k1 := (hb.cell (p := ⟨w.heap.size, 1, none⟩) (block_lt hk1)).trans hk1
  have hX := own_at hO1
  have hc1 := own_le hO1
  have hz1 := hb.size
  have hrow1 := (hb.block w.heap.size (by omega)).trans hrow
  have hne1 : ∀ g off, A1 = some ⟨g, off, none⟩ → g ≠ w.heap.size := by
    intro g off he
    rcases hO1.2 with ⟨hv, _⟩ | ⟨g', cap', cur', hv, hg', _⟩
    · injection hv with e1 e2 e3
      rw [e1] at he; cases he
    · injection hv with e1 e2 e3
      rw [e1] at he
      injection he with he
      injection he with he1 he2
      omega
  have hf0 := frozen_of_row w1 w.heap.size 0 _ _ hrow1
  have hf1 := frozen_of_row w1 w.heap.size 1 _ _ hrow1
  clear HCL hb hk0 hk1 hb1 hO1 hrow
  have CS := fun k m : Value => Lib.hid (code_set (k := k) (m := m) hrow1 hX hne1)
  have HBS := fun k m : Value => Lib.hid ((HB.setCell (p := ⟨w.heap.size, 0, none⟩) (Nat.le_refl _) k).setCell (p := ⟨w.heap.size, 1, none⟩) (Nat.le_refl _) m)
  clear hrow1 hne1
  by_cases h1 : 40 < K
  rotate_left
  by_cases h2 : 40 < M
  all_goals go_wp2_with fail
  all_goals first
    | (have _ := (h1 : 40 < K)
       obtain ⟨k0', k1', X⟩ := (CS (.int .i64 (K % 40)) (.int .i64 (M.tmod 40))).out
       have HBx := (HBS (.int .i64 (K % 40)) (.int .i64 (M.tmod 40))).out
       generalize (w1.setCell ⟨w.heap.size, 0, none⟩ (.int .i64 (K % 40))).setCell ⟨w.heap.size, 1, none⟩ (.int .i64 (M.tmod 40)) = w2 at *
       clear k0 k1 hX HB CS HBS hf0 hf1 h1 hz1
       generalize K % 40 = Kx at *
       generalize M.tmod 40 = Mx at *)
    | (have _ := (h2 : 40 < M)
       obtain ⟨k0', k1', X⟩ := (CS (.int .i64 (K.tmod 40)) (.int .i64 (M % 40))).out
       have HBx := (HBS (.int .i64 (K.tmod 40)) (.int .i64 (M % 40))).out
       generalize (w1.setCell ⟨w.heap.size, 0, none⟩ (.int .i64 (K.tmod 40))).setCell ⟨w.heap.size, 1, none⟩ (.int .i64 (M % 40)) = w2 at *
       clear k0 k1 hX HB CS HBS hf0 hf1 h1 h2 hz1
       generalize K.tmod 40 = Kx at *
       generalize M % 40 = Mx at *)
    | (have k0' := k0
       have k1' := k1
       have X := hX
       have HBx := HB
       clear k0 k1 hX HB CS HBS hf0 hf1 h1 h2 hz1
       generalize w1 = w2 at *
       generalize K = Kx at *
       generalize M = Mx at *)
  all_goals
    have k0 := k0'
    have k1 := k1'
    clear k0' k1'
    have HCT := Lib.hid (cut_x (K := Kx) (M := Mx) X rfl hc1 (HFF.out.below HBx))
    have HRC := Lib.hid (fun (w3 : World) (hb : Below w2.heap.size w2 w3) => rcut_x (K := Kx) (M := Mx) ((HA.out.below HBx).below hb) rfl HCC.out HNI.out)
    have HEL := Lib.hid (cutL_len Kx Mx lb)
    generalize cutL Kx Mx lb = P at *
    generalize cutE Kx Mx lb = E at *
    refine HCT.out.mono ?_
    intro e w3 hr
    obtain ⟨A3, c3, rfl, Z, hb, hsp⟩ := hr.l
    have HSP := Lib.hid hsp
    replace k0 := (hb.cell (p := ⟨w.heap.size, 0, none⟩) (block_lt k0)).trans k0
    replace k1 := (hb.cell (p := ⟨w.heap.size, 1, none⟩) (block_lt k1)).trans k1
    have h23 := hb
    clear hr hsp HCT hb
    go_wp2_with fail
    refine (HRC.out w3 h23).mono ?_
    rintro e w4 ⟨A4, c4, rfl, Q, hb⟩
    have hee : (E != E) = false := by simp
    have h24 := h23.trans (hb.mono h23.size)
    replace k0 := (hb.cell (p := ⟨w.heap.size, 0, none⟩) (block_lt k0)).trans k0
    replace k1 := (hb.cell (p := ⟨w.heap.size, 1, none⟩) (block_lt k1)).trans k1
    have h34 := hb
    have Z4 := Z.below hb
    clear HRC hb Z h23
    go_wp2_with fail
    have hD : Below w4.heap.size w4 w4.drew := (belowN 1 : Below w4.heap.size w4 (w4.drewN 1))
    have HS := Lib.hid (same_ll (a := c3) (b := c4) (Z4.below hD) (Q.below hD) (Nat.le_trans HEL.out (by decide)))
    have k0D : w4.drew.cell? ⟨w.heap.size, 0, none⟩ = some (.int .i64 Kx) := k0
    have k1D : w4.drew.cell? ⟨w.heap.size, 1, none⟩ = some (.int .i64 Mx) := k1
    replace h24 := h24.trans (hD.mono h24.size)
    replace h34 := h34.trans (hD.mono h34.size)
    refine wp_region_held_drew (S := fun w' => w'.cell? ⟨w.heap.size, 0, none⟩ = some (.int .i64 Kx) ∧ w'.cell? ⟨w.heap.size, 1, none⟩ = some (.int .i64 Mx)) (by kernel_rfl) ⟨k0D, k1D⟩ (fun hHeld => ?_)
    generalize w4.drew = w5 at *
    clear k0 k1 Z4 Q hD
    have HC1 := fun W : World => Lib.hid (length_x (w := W) Kx Mx s)
    have HC2 := fun W : World => Lib.hid (rlength_x (w := W) Kx Mx s)
    generalize lenZ Kx Mx s = cb at *
    have hcc : (cb != cb) = false := by simp
    refine wpAnyH_take (i := 0) (v := ?_) rfl (by kernel_rfl) (by kernel_rfl) (by kernel_rfl) (fun _ _ _ h => h) (Or.inl ⟨by rfl, ?_⟩) (by assumption) ?_; rotate_left; (intro w hSw; (try dsimp only at hSw); go_simp; (first | done | (with_reducible rfl))); (try simp only [List.getElem_toArray, List.getElem_cons_succ, List.getElem_cons_zero, Act.put, List.setIfInBounds_toArray, List.set_cons_zero, List.set_cons_succ])
    refine wpAnyH_take (i := 1) (v := ?_) rfl (by kernel_rfl) (by kernel_rfl) (by kernel_rfl) (fun _ _ _ h => h) (Or.inl ⟨by rfl, ?_⟩) (by assumption) ?_; rotate_left; (intro w hSw; (try dsimp only at hSw); go_simp; (first | done | (with_reducible rfl))); (try simp only [List.getElem_toArray, List.getElem_cons_succ, List.getElem_cons_zero, Act.put, List.setIfInBounds_toArray, List.set_cons_zero, List.set_cons_succ])
    refine wpAnyH_take (i := 2) (v := ?_) rfl (by kernel_rfl) (by kernel_rfl) (by kernel_rfl) (fun _ _ _ h => h) (Or.inl ⟨by rfl, ?_⟩) (by assumption) ?_; rotate_left; (intro w hSw; (try dsimp only at hSw); go_simp; (first | done | (with_reducible rfl))); (try simp only [List.getElem_toArray, List.getElem_cons_succ, List.getElem_cons_zero, Act.put, List.setIfInBounds_toArray, List.set_cons_zero, List.set_cons_succ])
    refine wpAnyH_take (i := 3) (v := ?_) rfl (by kernel_rfl) (by kernel_rfl) (by kernel_rfl) (fun _ _ _ h => h) (Or.inl ⟨by rfl, ?_⟩) (by assumption) ?_; rotate_left; (intro w hSw; (try dsimp only at hSw); go_simp; (first | done | (with_reducible rfl))); (try simp only [List.getElem_toArray, List.getElem_cons_succ, List.getElem_cons_zero, Act.put, List.setIfInBounds_toArray, List.set_cons_zero, List.set_cons_succ])
    refine wpAnyH_take (i := 4) (v := ?_) rfl (by kernel_rfl) (by kernel_rfl) (by kernel_rfl) (fun _ _ _ h => h) (Or.inl ⟨by rfl, ?_⟩) (by assumption) ?_; rotate_left; (intro w hSw; (try dsimp only at hSw); go_simp; (first | done | (with_reducible rfl))); (try simp only [List.getElem_toArray, List.getElem_cons_succ, List.getElem_cons_zero, Act.put, List.setIfInBounds_toArray, List.set_cons_zero, List.set_cons_succ])
    refine wpAnyH_take (i := 5) (v := ?_) rfl (by kernel_rfl) (by kernel_rfl) (by kernel_rfl) (fun _ _ _ h => h) (Or.inl ⟨by rfl, ?_⟩) (by assumption) ?_; rotate_left; (intro w hSw; (try dsimp only at hSw); go_simp; (first | done | (with_reducible rfl))); (try simp only [List.getElem_toArray, List.getElem_cons_succ, List.getElem_cons_zero, Act.put, List.setIfInBounds_toArray, List.set_cons_zero, List.set_cons_succ])
    refine wpAnyH_ready (rs := [6]) (by kernel_rfl) (by simp) ?_; refine AllReadyH.cons rfl (fun KK hKK => ?_) AllReadyH.nil
    go_simp
    refine HS.out.mono ?_
    rintro e w' ⟨rfl, rfl⟩
    go_wp2_with fail
    refine hKK.out _ _ ⟨k0D, k1D⟩ (fun hHeld => ?_)
    clear hKK KK
    (try simp only [List.getElem_toArray, List.getElem_cons_succ, List.getElem_cons_zero, Act.put, List.setIfInBounds_toArray, List.set_cons_zero, List.set_cons_succ])
    refine wpAnyH_take (i := 7) (v := ?_) rfl (by kernel_rfl) (by kernel_rfl) (by kernel_rfl) (fun _ _ _ h => h) (Or.inl ⟨by rfl, ?_⟩) (by assumption) ?_; rotate_left; (intro w hSw; (try dsimp only at hSw); go_simp; (first | done | (with_reducible rfl))); (try simp only [List.getElem_toArray, List.getElem_cons_succ, List.getElem_cons_zero, Act.put, List.setIfInBounds_toArray, List.set_cons_zero, List.set_cons_succ])
    refine wpAnyH_take (i := 8) (v := ?_) rfl (by kernel_rfl) (by kernel_rfl) (by kernel_rfl) (fun _ _ _ h => h) (Or.inl ⟨by rfl, ?_⟩) (by assumption) ?_; rotate_left; (intro w hSw; (try dsimp only at hSw); go_simp; (first | done | (with_reducible rfl))); (try simp only [List.getElem_toArray, List.getElem_cons_succ, List.getElem_cons_zero, Act.put, List.setIfInBounds_toArray, List.set_cons_zero, List.set_cons_succ])
    refine wpAnyH_take (i := 9) (v := ?_) rfl (by kernel_rfl) (by kernel_rfl) (by kernel_rfl) (fun _ _ _ h => h) (Or.inl ⟨by rfl, ?_⟩) (by assumption) ?_; rotate_left; (intro w hSw; (try dsimp only at hSw); go_simp; (first | done | (with_reducible rfl))); (try simp only [List.getElem_toArray, List.getElem_cons_succ, List.getElem_cons_zero, Act.put, List.setIfInBounds_toArray, List.set_cons_zero, List.set_cons_succ])
    refine wpAnyH_take (i := 10) (v := ?_) rfl (by kernel_rfl) (by kernel_rfl) (by kernel_rfl) (fun _ _ _ h => h) (Or.inl ⟨by rfl, ?_⟩) (by assumption) ?_; rotate_left; (intro w hSw; (try dsimp only at hSw); go_simp; (first | done | (with_reducible rfl))); (try simp only [List.getElem_toArray, List.getElem_cons_succ, List.getElem_cons_zero, Act.put, List.setIfInBounds_toArray, List.set_cons_zero, List.set_cons_succ])
    refine wpAnyH_take (i := 11) (v := ?_) rfl (by kernel_rfl) (by kernel_rfl) (by kernel_rfl) (fun _ _ _ h => h) (Or.inl ⟨by rfl, ?_⟩) (by assumption) ?_; rotate_left; (intro w hSw; (try dsimp only at hSw); go_simp; (first | done | (with_reducible rfl))); (try simp only [List.getElem_toArray, List.getElem_cons_succ, List.getElem_cons_zero, Act.put, List.setIfInBounds_toArray, List.set_cons_zero, List.set_cons_succ])
    refine wpAnyH_take (i := 13) (v := ?_) rfl (by kernel_rfl) (by kernel_rfl) (by kernel_rfl) (fun _ _ _ h => h) (Or.inl ⟨by rfl, ?_⟩) (by assumption) ?_; rotate_left; (intro w hSw; (try dsimp only at hSw); go_simp; (first | done | (with_reducible rfl))); (try simp only [List.getElem_toArray, List.getElem_cons_succ, List.getElem_cons_zero, Act.put, List.setIfInBounds_toArray, List.set_cons_zero, List.set_cons_succ])
    refine wpAnyH_take (i := 14) (v := ?_) rfl (by kernel_rfl) (by kernel_rfl) (by kernel_rfl) (fun _ _ _ h => h) (Or.inl ⟨by rfl, ?_⟩) (by assumption) ?_; rotate_left; (intro w hSw; (try dsimp only at hSw); go_simp; (first | done | (with_reducible rfl))); (try simp only [List.getElem_toArray, List.getElem_cons_succ, List.getElem_cons_zero, Act.put, List.setIfInBounds_toArray, List.set_cons_zero, List.set_cons_succ])
    refine wpAnyH_ready (rs := [12]) (by kernel_rfl) (by simp) ?_; refine AllReadyH.cons rfl (fun KK hKK => ?_) AllReadyH.nil
    go_simp
    refine (HC1 _).out.mono ?_
    rintro e w6 ⟨rfl, h56⟩
    go_wp2_with fail
    have k06 := (h56.cell (p := ⟨w.heap.size, 0, none⟩) (block_lt k0D)).trans k0D
    have k16 := (h56.cell (p := ⟨w.heap.size, 1, none⟩) (block_lt k1D)).trans k1D
    refine hKK.out _ _ ⟨k06, k16⟩ (fun hHeld => ?_)
    clear hKK KK
    (try simp only [List.getElem_toArray, List.getElem_cons_succ, List.getElem_cons_zero, Act.put, List.setIfInBounds_toArray, List.set_cons_zero, List.set_cons_succ])
    refine wpAnyH_ready (rs := [15]) (by kernel_rfl) (by simp) ?_; refine AllReadyH.cons rfl (fun KK hKK => ?_) AllReadyH.nil
    go_simp
    refine (HC2 _).out.mono ?_
    rintro e w7 ⟨rfl, h67⟩
    go_wp2_with fail
    have k07 := (h67.cell (p := ⟨w.heap.size, 0, none⟩) (block_lt k06)).trans k06
    have k17 := (h67.cell (p := ⟨w.heap.size, 1, none⟩) (block_lt k16)).trans k16
    refine hKK.out _ _ ⟨k07, k17⟩ (fun hHeld => ?_)
    clear hKK KK
    (try simp only [List.getElem_toArray, List.getElem_cons_succ, List.getElem_cons_zero, Act.put, List.setIfInBounds_toArray, List.set_cons_zero, List.set_cons_succ])
    refine wpAnyH_take (i := 16) (v := ?_) rfl (by kernel_rfl) (by kernel_rfl) (by kernel_rfl) (fun _ _ _ h => h) (Or.inl ⟨by rfl, ?_⟩) (by assumption) ?_; rotate_left; (intro w hSw; (try dsimp only at hSw); go_simp; (first | done | (with_reducible rfl))); (try simp only [List.getElem_toArray, List.getElem_cons_succ, List.getElem_cons_zero, Act.put, List.setIfInBounds_toArray, List.set_cons_zero, List.set_cons_succ])
    refine wpAnyH_take (i := 17) (v := ?_) rfl (by kernel_rfl) (by kernel_rfl) (by kernel_rfl) (fun _ _ _ h => h) (Or.inl ⟨by rfl, ?_⟩) (by assumption) ?_; rotate_left; (intro w hSw; (try dsimp only at hSw); go_simp; (first | done | (with_reducible rfl))); (try simp only [List.getElem_toArray, List.getElem_cons_succ, List.getElem_cons_zero, Act.put, List.setIfInBounds_toArray, List.set_cons_zero, List.set_cons_succ])
    refine wpAnyH_done (by kernel_rfl) ?_ _
    have h57 := h56.trans (h67.mono h56.size)
    have HSP7 := Lib.hid (HSP.out w7 (h34.trans (h57.mono h34.size)))
    have h27 := h24.trans (h57.mono h24.size)
    clear HS HC1 HC2 k0D k1D k06 k16 k07 k17 HSP h34 h24 h56 h67 h57
    go_wp2_with fail
    refine HSP7.out.mono ?_
    rintro e w8 ⟨rfl, h78⟩
    have h28 := h27.trans h78
    have HB8 := HBx.trans (h28.mono HBx.size)
    have HEQ := Lib.hid (equal_calls (c := c1) (d := c) (X.below h28) (HA.out.below HB8) rfl rfl)
    rw [decide_eq_true (rfl : lb = lb)] at HEQ
    clear HSP7 h27 h78 h28 X
    go_wp2_with fail
    refine HEQ.out.mono ?_
    rintro e w' ⟨rfl, rfl⟩
    go_wp2_with fail
    refine (length_x 2 0 20).mono ?_
    rintro e w9 ⟨rfl, h89⟩
    have hl16 : lenZ 2 0 20 = 16 := by decide
    rw [hl16]
    go_wp2_with fail
    go_ret
    exact ⟨rfl, HB8.trans (h89.mono HB8.size)⟩

end Go.Proofs.YtibidlgikecelaaDoor
