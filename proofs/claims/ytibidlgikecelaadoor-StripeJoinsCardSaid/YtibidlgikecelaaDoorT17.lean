/- Contract: amphoraref03.Encode of data that may be. -/
import Derived.Test.YtibidlgikecelaaDoorT16
namespace Go.Proofs.YtibidlgikecelaaDoor
open Go.RowKit
set_option linter.unusedVariables false
set_option linter.unusedSimpArgs false

/-- A code's box. -/
theorem code_box (w : World) (K M : Int) : ∃ wb, wb = w.alloc (.cells #[.int .i64 K, .int .i64 M] 38) ∧ Below w.heap.size w wb ∧ wb.cell? ⟨w.heap.size, 0, none⟩ = some (.int .i64 K) ∧ wb.cell? ⟨w.heap.size, 1, none⟩ = some (.int .i64 M) ∧ wb.heap.size = w.heap.size + 1 :=
  ⟨_, rfl, below1' w _, cell_of_row _ _ 0 _ _ (0, 0) (heap_alloc_new w _), cell_of_row _ _ 1 _ _ (0, 0) (heap_alloc_new w _), by simp⟩
/-- A column of data. -/
def colM (D : Mx) (i : Nat) : Mx := fun a _ => D a i
theorem col_mul (K : Nat) (G D : Mx) (i k : Nat) : mulM K G (colM D i) k 0 = mulM K G D k i := rfl
theorem at_byte1 (w : World) (x : B8) : RowB (w.alloc (.cells #[.int .u8 (x.toNat : Int)] 5)) w.heap.size [x] := heap_alloc_new w _

set_option maxHeartbeats 4000000 in
set_option maxRecDepth 100000 in
theorem rencode_calls {w : World} {K M c cS : Nat} {S : Option Addr} {D : Mx} (hS : MatAt w S K c D) (hK : 1 ≤ K) (hKM : K + M ≤ 255) (hc : 0 < c) (hc2 : c ≤ 1000) :
    Calls Tryd.prog 34 #[.agg #[.int .i64 (K : Int), .int .i64 (M : Int)], .slice S K cS] w (RetX w (rowsL (K + M) c (mulM K (genM K) D)) 0) := by
  obtain ⟨vS, hS1, hS2⟩ := hS
  obtain ⟨bS, oS, rfl⟩ := some_of_at hS1 (by rw [hS2.1]; simp; omega)
  obtain ⟨S0, cS0, hS0, _, _, _⟩ := row_head hS1 hS2 hK
  rw [Nat.add_zero] at hS0
  have hbS := block_lt hS0
  have hKi : (0 : Int) < (K : Int) := by omega
  have hKn : ((K : Int) != (K : Int)) = false := by simp
  have hcn : ((c : Int) == (0 : Int)) = false := beq_eq_false_iff_ne.2 (by omega)
  have hcne : ((c : Int) != (c : Int)) = false := by simp
  obtain ⟨wa, hwa, hb1, hk0, hk1, hs1⟩ := code_box w (K : Int) (M : Int)
  have HWA := Lib.hid hwa
  clear hwa
  have HCAN := Lib.hid (rcan_calls (w := wa) hK hKM)
  go_enter Tryd.func34, Tryd.ntmps34
  go_wp2_with fail
  have hwa := HWA.out
  rw [← hwa]
  clear hwa HWA
  refine HCAN.out.mono ?_
  rintro e w2 ⟨rfl, hb2⟩
  have hB2 := hb1.trans (hb2.mono hb1.size)
  have hk02 := (hb2.cell (p := ⟨w.heap.size, 0, none⟩) (block_lt hk0)).trans hk0
  have hk12 := (hb2.cell (p := ⟨w.heap.size, 1, none⟩) (block_lt hk1)).trans hk1
  have hS02 := (hB2.cell (p := ⟨bS, oS, none⟩) hbS).trans hS0
  clear HCAN hk0 hk1 hb1 hb2 hs1
  go_wp2_with fail
  go_loop [37] (fun s => ∃ t : Nat, t ≤ K ∧ s = .int .i64 ((t : Nat) : Int)) (fun s => K - (intOf s).toNat)
  case atStart => exact ⟨0, by omega, rfl⟩
  case round =>
    obtain ⟨t, ht, rfl⟩ := hrel
    by_cases htK : t < K
    · have hti : (t : Int) < (K : Int) := by omega
      obtain ⟨X, cx, hcx, _, _, _⟩ := row_head hS1 hS2 htK
      have hcxw := (hB2.cell (p := ⟨bS, oS + t, none⟩) hbS).trans hcx
      clear hcx
      go_wp2_with fail
      exact ⟨⟨t + 1, by omega, by go_num⟩, by simp [intOf]; omega⟩
    · obtain rfl : K = t := by omega
      go_wp2_with fail
      refine (rgener_calls hK hKM).mono ?_
      rintro e w3 ⟨A3, c3, blk3, rfl, hG3, hb3⟩
      have hB3 := hB2.trans (hb3.mono hB2.size)
      have hk03 := (hb3.cell (p := ⟨w.heap.size, 0, none⟩) (block_lt hk02)).trans hk02
      have hk13 := (hb3.cell (p := ⟨w.heap.size, 1, none⟩) (block_lt hk12)).trans hk12
      have hS03 := (hB3.cell (p := ⟨bS, oS, none⟩) hbS).trans hS0
      have hGm := hG3.mat (by omega)
      have hbS3 : bS < w3.heap.size := Nat.lt_of_lt_of_le hbS hB3.size
      clear hk02 hk12 hS02 hb3 hG3
      go_wp2_with (refine make_top rfl (.tmp 58) (.tmp 58) rfl (K + M) rfl rfl (by omega) (by omega) (by omega) ?_; intro w4 ht4 hb4 hs4; have HT := Lib.hid ht4; have hS04 := (hb4.cell (p := ⟨bS, oS, none⟩) hbS3).trans hS03; clear ht4 hs4)
      have hB4 := hB3.trans (hb4.mono hB3.size)
      have hO4 : OwnT w4 w3.heap.size (some ⟨w3.heap.size, 0, none⟩) (K + M) (List.replicate (K + M) (.slice none 0 0)) (rowsL (K + M) 0 (mulM K (genM K) D)) := OwnT.start HT.out (Nat.le_refl _) (by omega)
      have hz3 := hb4.size
      clear hk03 hk13 hS03 HT
      go_loopw [64] (fun s wr => ∃ (i : Nat) (vs : List Value), i ≤ c ∧ s = .int .i64 ((i : Nat) : Int) ∧ OwnT wr w3.heap.size (some ⟨w3.heap.size, 0, none⟩) (K + M) vs (rowsL (K + M) i (mulM K (genM K) D)) ∧ Below w3.heap.size w3 wr) (fun s _ => c - (intOf s).toNat)
      case atStart => exact ⟨0, _, by omega, rfl, hO4, hb4⟩
      case round =>
        obtain ⟨i, vs, hi, rfl, hO, hb⟩ := hrel
        rename World => w5
        have hB5 := hB3.trans (hb.mono hB3.size)
        clear hO4 hb4 hB4 hS04
        by_cases hic : i < c
        · have hii : (i : Int) < (c : Int) := by omega
          have hz5 := hb.size
          go_wp2_with fail
          go_loopw [12, 69] (fun s12 s wr => ∃ (t : Nat) (A' : Option Addr) (cap : Nat) (xs : List Value), t ≤ K ∧ s = .int .i64 ((t : Nat) : Int) ∧ s12 = .slice A' t cap ∧ OwnT wr w5.heap.size A' cap xs (rowsL t 1 (colM D i)) ∧ Below w5.heap.size w5 wr) (fun _ s _ => K - (intOf s).toNat)
          case atStart => exact ⟨0, none, 0, [], by omega, rfl, rfl, OwnT.nil _ _, Below.refl _ _⟩
          case round =>
            obtain ⟨t, A', cap, xs, ht', rfl, rfl, hC, hbc⟩ := hrel
            rename World => w6
            have hB6 := hB5.trans (hbc.mono hB5.size)
            have hz6 := hbc.size
            by_cases htK : t < K
            · have hti : (t : Int) < (K : Int) := by omega
              obtain ⟨X, cx, hcx, hX, _, _⟩ := row_head hS1 hS2 htK
              have hcxw := (hB6.cell (p := ⟨bS, oS + t, none⟩) hbS).trans hcx
              obtain ⟨bx, ox, rfl, hby⟩ := row_byte (hX.below hB6) hic
              have hsn : rowsL (t + 1) 1 (colM D i) = rowsL t 1 (colM D i) ++ [[D t i]] := by rw [rowsL_succ]; rfl
              have HSN := Lib.hid hsn
              have hx1 := at_byte1 w6 (D t i)
              generalize D t i = x at *
              have HC := Lib.hid hC
              have HX1 := Lib.hid hx1
              clear hcx hsn hC hx1
              have hb7 := below1' w6 (.cells #[.int .u8 (x.toNat : Int)] 5)
              have hz7 : (w6.alloc (.cells #[.int .u8 (x.toNat : Int)] 5)).heap.size = w6.heap.size + 1 := by simp
              have hb8 := below1' (w6.alloc (.cells #[.int .u8 (x.toNat : Int)] 5)) (.cells #[.slice (some ⟨w6.heap.size, 0, none⟩) 1 1] 22)
              have hat := at_lit1 (w6.alloc (.cells #[.int .u8 (x.toNat : Int)] 5)) (.slice (some ⟨w6.heap.size, 0, none⟩) 1 1) 22
              rw [hz7] at hat
              have hb9 := hb7.trans (hb8.mono hb7.size)
              have hhead := own_below HC.out.own hb9
              rw [length_rowsL] at hhead
              have hrow := (HX1.out.own (B := w6.heap.size) (n := 1) rfl (Nat.le_refl _) (by decide))
              go_wp2_with (at_builtin; refine app_head rfl (.tmp 73) (.tmp 79) rfl w5.heap.size rfl hhead rfl (news := [.slice (some ⟨w6.heap.size, 0, none⟩) 1 1]) rfl hat (by intro u hu; rw [List.mem_singleton] at hu; subst hu; rfl) (by simp) (by omega) (by have := hb9.size; omega) ?_; intro A4 c4 w9 ho4 hb4 hg4 hc4)
              have hC9 : OwnT w9 w5.heap.size A4 c4 (xs ++ [.slice (some ⟨w6.heap.size, 0, none⟩) 1 1]) (rowsL (t + 1) 1 (colM D i)) := by
                rw [HSN.out]
                exact HC.out.push hz6 rfl (by decide) hrow (by simp) hb9 hb8 ho4 hg4
              exact ⟨⟨t + 1, A4, c4, _, by omega, by go_num, rfl, hC9, (hbc.trans (hb9.mono hz6)).trans hb4⟩, by simp [intOf]; omega⟩
            · obtain rfl : K = t := by omega
              have hO6 := hO.below hbc
              obtain ⟨vG, hg1, hg2⟩ := (hGm.below hb).below hbc
              have hg6 : w3.heap.size < w6.heap.size := (hO6.own.lt _ rfl).2
              clear hO
              go_wp2_with fail
              refine (rmatmul_calls hg1 hg2 hC.at hC.texts (by omega) (by omega) (by omega) (by omega) (by omega) (by omega)).mono ?_
              rintro e w7 ⟨A7, c7, blk7, rfl, hP, hb7⟩
              obtain ⟨g7, rfl, hW7⟩ := hP.toW (by omega) (by decide)
              have hO7 := hO6.below hb7
              have hfar := hO6.far (y := w7.heap.size)
              have hB7 : Below w3.heap.size w3 w7 := (hb.trans (hbc.mono hz5)).trans (hb7.mono (by omega))
              have hz7 := hb7.size
              have HW7 := Lib.hid hW7
              clear hg1 hg2 hP hO6 hC hb7 hbc hB6
              go_wp2_with fail
              go_loopw [90] (fun s wr => ∃ (k : Nat) (us : List Value), k ≤ K + M ∧ s = .int .i64 ((k : Nat) : Int) ∧ OwnT wr w3.heap.size (some ⟨w3.heap.size, 0, none⟩) (K + M) us (colL (K + M) k i (mulM K (genM K) D)) ∧ Below w3.heap.size w3 wr ∧ FarR w6.heap.size w7.heap.size us ∧ Hid (∀ b, w6.heap.size ≤ b → b < w7.heap.size → wr.heap[b]? = w7.heap[b]?) ∧ w7.heap.size ≤ wr.heap.size) (fun s _ => K + M - (intOf s).toNat)
              case atStart => exact ⟨0, vs, by omega, rfl, by rw [colL_zero]; exact hO7, hB7, hfar, fun b _ _ => rfl, Nat.le_refl _⟩
              case round =>
                obtain ⟨k, us, hk, rfl, hOk, hBk, hFk, HKP, hzk⟩ := hrel
                rename World => wk
                clear hO7 hB7 hfar
                by_cases hkN : k < K + M
                · have hki : (k : Int) < (K : Int) + (M : Int) := by omega
                  have hh7 := HW7.out.cell hkN
                  have hy7 := HW7.out.byte hkN (show 0 < 1 by decide)
                  have hgr := HW7.out.ltG
                  have hbr := HW7.out.ltB hkN
                  have hhp : wk.cell? ⟨g7, k, none⟩ = some (.slice (some ⟨blk7 k, 0, none⟩) 1 1) := (World.cell?_of_block (a := ⟨g7, k, none⟩) (HKP.out g7 hgr.1 hgr.2)).trans hh7
                  have hyp : wk.cell? ⟨blk7 k, 0, none⟩ = some (.int .u8 ((mulM K (genM K) (colM D i) k 0).toNat : Int)) := (World.cell?_of_block (a := ⟨blk7 k, 0, none⟩) (HKP.out (blk7 k) hbr.1 hbr.2)).trans hy7
                  have hul : us.length = K + M := by rw [hOk.len]; simp
                  have huk : us[k]? = some us[k] := List.getElem?_eq_getElem (by omega)
                  have hlk : (colL (K + M) k i (mulM K (genM K) D))[k]? = some (rowL i (mulM K (genM K) D k)) := by rw [colL_get hkN, if_neg (Nat.lt_irrefl k)]
                  generalize us[k] = v at *
                  obtain ⟨hvo, _⟩ := hOk.row k v _ huk hlk
                  rw [length_rowL] at hvo
                  obtain ⟨Av, cv, rfl, _⟩ := own_form hvo
                  have hco := hOk.own.cellAt k (by simp; omega)
                  rw [huk] at hco
                  have hfo := hOk.own.frozenAt k
                  have hx : mulM K (genM K) (colM D i) k 0 = mulM K (genM K) D k i := rfl
                  rw [hx] at hyp
                  have HQ := Lib.hid (colL_set (K + M) k i (mulM K (genM K) D))
                  rw [rowL_succ] at HQ
                  generalize mulM K (genM K) D k i = x at *
                  generalize rowL i (mulM K (genM K) D k) = rk at *
                  have hrk : rk.length = i := by have := hvo.1; simpa using this
                  have HRK := Lib.hid hrk
                  have HUK := Lib.hid huk
                  have HLK := Lib.hid hlk
                  clear hrk huk hlk hh7 hy7 hx
                  go_wp2_with fail
                  have hOD : OwnT wk.drew w3.heap.size (some ⟨w3.heap.size, 0, none⟩) (K + M) us (colL (K + M) k i (mulM K (genM K) D)) := hOk.below (belowN 1 : Below wk.heap.size wk (wk.drewN 1))
                  have hBD : Below w3.heap.size w3 wk.drew := hBk.trans ((belowN 1 : Below wk.heap.size wk (wk.drewN 1)).mono hBk.size)
                  have hhpD : wk.drew.cell? ⟨g7, k, none⟩ = some (.slice (some ⟨blk7 k, 0, none⟩) 1 1) := hhp
                  have hypD : wk.drew.cell? ⟨blk7 k, 0, none⟩ = some (.int .u8 (x.toNat : Int)) := hyp
                  have hcoD : wk.drew.cell? ⟨w3.heap.size, k, none⟩ = some (.slice Av i cv) := hco
                  have hvoD : wk.drew.ownsRow w3.heap.size 5 1 (.slice Av i cv) i (bys rk) := hvo
                  have HKPD : Hid (∀ b, w6.heap.size ≤ b → b < w7.heap.size → wk.drew.heap[b]? = w7.heap[b]?) := HKP
                  have hzD : w7.heap.size ≤ wk.drew.heap.size := hzk
                  refine wp_region_held_drew (S := fun w' => w'.cell? ⟨g7, k, none⟩ = some (.slice (some ⟨blk7 k, 0, none⟩) 1 1) ∧ w'.cell? ⟨blk7 k, 0, none⟩ = some (.int .u8 (x.toNat : Int))) (by kernel_rfl) ⟨hhpD, hypD⟩ (fun hHeld => ?_)
                  generalize wk.drew = WD at *
                  clear hOk hBk hhp hyp hco hfo hvo HKP hzk
                  have hgo := block_lt hcoD
                  have hbA := below1' WD (.cells #[.int .u8 (x.toNat : Int)] 5)
                  have hx8 := at_byte1 WD x
                  have hcoA := (hbA.cell (p := ⟨w3.heap.size, k, none⟩) hgo).trans hcoD
                  have hhpA := (hbA.cell (p := ⟨g7, k, none⟩) (block_lt hhpD)).trans hhpD
                  have hypA := (hbA.cell (p := ⟨blk7 k, 0, none⟩) (block_lt hypD)).trans hypD
                  have hOA := hOD.below hbA
                  have hvoA := own_below hvoD hbA
                  have hBA := hBD.trans (hbA.mono hBD.size)
                  have hfr := hFk k _ HUK.out
                  have hn1 : some g7 ≠ (Value.slice Av i cv).ownBlock := fun he => by have := hfr g7 he.symm; omega
                  have hn2 : some (blk7 k) ≠ (Value.slice Av i cv).ownBlock := fun he => by have := hfr (blk7 k) he.symm; omega
                  refine wpAnyH_take (i := 0) (v := ?_) rfl (by kernel_rfl) (by kernel_rfl) (by kernel_rfl) (fun _ _ _ h => h) (Or.inl ⟨by rfl, ?_⟩) (by assumption) ?_; rotate_left; (intro w hSw; (try dsimp only at hSw); go_simp; (first | done | (with_reducible rfl))); (try simp only [List.getElem_toArray, List.getElem_cons_succ, List.getElem_cons_zero, Act.put, List.setIfInBounds_toArray, List.set_cons_zero, List.set_cons_succ])
                  refine wpAnyH_take (i := 1) (v := ?_) rfl (by kernel_rfl) (by kernel_rfl) (by kernel_rfl) (fun _ _ _ h => h) (Or.inl ⟨by rfl, ?_⟩) (by assumption) ?_; rotate_left; (intro w hSw; (try dsimp only at hSw); go_simp; (first | done | (with_reducible rfl))); (try simp only [List.getElem_toArray, List.getElem_cons_succ, List.getElem_cons_zero, Act.put, List.setIfInBounds_toArray, List.set_cons_zero, List.set_cons_succ])
                  refine wpAnyH_take (i := 2) (v := ?_) rfl (by kernel_rfl) (by kernel_rfl) (by kernel_rfl) (fun _ _ _ h => h) (Or.inl ⟨by rfl, ?_⟩) (by assumption) ?_; rotate_left; (intro w hSw; (try dsimp only at hSw); go_simp; (first | done | (with_reducible rfl))); (try simp only [List.getElem_toArray, List.getElem_cons_succ, List.getElem_cons_zero, Act.put, List.setIfInBounds_toArray, List.set_cons_zero, List.set_cons_succ])
                  refine wpAnyH_take (i := 3) (v := ?_) rfl (by kernel_rfl) (by kernel_rfl) (by kernel_rfl) (fun _ _ _ h => h) (Or.inl ⟨by rfl, ?_⟩) (by assumption) ?_; rotate_left; (intro w hSw; (try dsimp only at hSw); go_simp; (first | done | (with_reducible rfl))); (try simp only [List.getElem_toArray, List.getElem_cons_succ, List.getElem_cons_zero, Act.put, List.setIfInBounds_toArray, List.set_cons_zero, List.set_cons_succ])
                  refine wpAnyH_take (i := 6) (v := ?_) rfl (by kernel_rfl) (by kernel_rfl) (by kernel_rfl) (fun _ _ _ h => h) (Or.inl ⟨by rfl, ?_⟩) (by assumption) ?_; rotate_left; (intro w hSw; (try dsimp only at hSw); go_simp; (first | done | (with_reducible rfl))); (try simp only [List.getElem_toArray, List.getElem_cons_succ, List.getElem_cons_zero, Act.put, List.setIfInBounds_toArray, List.set_cons_zero, List.set_cons_succ])
                  refine wpAnyH_take (i := 7) (v := ?_) rfl (by kernel_rfl) (by kernel_rfl) (by kernel_rfl) (fun _ _ _ h => h) (Or.inl ⟨by rfl, ?_⟩) (by assumption) ?_; rotate_left; (intro w hSw; (try dsimp only at hSw); go_simp; (first | done | (with_reducible rfl))); (try simp only [List.getElem_toArray, List.getElem_cons_succ, List.getElem_cons_zero, Act.put, List.setIfInBounds_toArray, List.set_cons_zero, List.set_cons_succ])
                  refine wpAnyH_take (i := 4) (v := ?_) rfl (by kernel_rfl) (by kernel_rfl) (by kernel_rfl) (fun _ _ _ h => h) (Or.inl ⟨by rfl, ?_⟩) (by assumption) ?_; rotate_left; (intro w hSw; (try dsimp only at hSw); go_simp; (first | done | (with_reducible rfl))); (try simp only [List.getElem_toArray, List.getElem_cons_succ, List.getElem_cons_zero, Act.put, List.setIfInBounds_toArray, List.set_cons_zero, List.set_cons_succ])
                  refine wpAnyH_take (i := 8) (v := ?_) rfl (by kernel_rfl) (by kernel_rfl) (by kernel_rfl) (fun _ _ _ h => h) (Or.inl ⟨by rfl, ?_⟩) (by assumption) ?_; rotate_left; (intro w hSw; (try dsimp only at hSw); go_simp; (first | done | (with_reducible rfl))); (try simp only [List.getElem_toArray, List.getElem_cons_succ, List.getElem_cons_zero, Act.put, List.setIfInBounds_toArray, List.set_cons_zero, List.set_cons_succ])
                  refine wpAnyH_take (i := 9) (v := ?_) rfl (by kernel_rfl) (by kernel_rfl) (by kernel_rfl) (fun _ _ _ h => h) (Or.inl ⟨by rfl, ?_⟩) (by assumption) ?_; rotate_left; (intro w hSw; (try dsimp only at hSw); go_simp; (first | done | (with_reducible rfl))); (try simp only [List.getElem_toArray, List.getElem_cons_succ, List.getElem_cons_zero, Act.put, List.setIfInBounds_toArray, List.set_cons_zero, List.set_cons_succ])
                  refine wpAnyH_take (i := 10) (v := ?_) rfl (by kernel_rfl) (by kernel_rfl) (by kernel_rfl) (fun _ _ _ h => h) (Or.inl ⟨by rfl, ?_⟩) (by assumption) ?_; rotate_left; (intro w hSw; (try dsimp only at hSw); go_simp; (first | done | (with_reducible rfl))); (try simp only [List.getElem_toArray, List.getElem_cons_succ, List.getElem_cons_zero, Act.put, List.setIfInBounds_toArray, List.set_cons_zero, List.set_cons_succ])
                  refine wpAnyH_take (i := 11) (v := ?_) rfl (by kernel_rfl) (by kernel_rfl) (by kernel_rfl) (fun _ _ _ h => h) (Or.inl ⟨by rfl, ?_⟩) (by assumption) ?_; rotate_left; (intro w hSw; (try dsimp only at hSw); go_simp; (first | done | (with_reducible rfl))); (try simp only [List.getElem_toArray, List.getElem_cons_succ, List.getElem_cons_zero, Act.put, List.setIfInBounds_toArray, List.set_cons_zero, List.set_cons_succ])
                  refine wpAnyH_ready (rs := [5, 12]) (by kernel_rfl) (by simp) ?_
                  refine AllReadyH.cons rfl (fun K hK => ?_) (AllReadyH.cons rfl (fun K hK => ?_) AllReadyH.nil)
                  · go_simp
                    go_wp2_with fail
                    refine hK.out _ _ ⟨hhpD, hypD⟩ (fun hHeld => ?_); clear hK K; (try simp only [List.getElem_toArray, List.getElem_cons_succ, List.getElem_cons_zero, Act.put, List.setIfInBounds_toArray, List.set_cons_zero, List.set_cons_succ])
                    refine wpAnyH_ready (rs := [12]) (by kernel_rfl) (by simp) ?_; refine AllReadyH.cons rfl (fun K hK => ?_) AllReadyH.nil
                    go_simp
                    go_wp2_with fail
                    refine hK.out _ _ ⟨hhpA, hypA⟩ (fun hHeld => ?_); clear hK K; (try simp only [List.getElem_toArray, List.getElem_cons_succ, List.getElem_cons_zero, Act.put, List.setIfInBounds_toArray, List.set_cons_zero, List.set_cons_succ])
                    refine wpAnyH_ready (rs := [13]) (by kernel_rfl) (by simp) ?_; refine AllReadyH.cons rfl (fun K hK => ?_) AllReadyH.nil
                    refine step_app_bytes rfl (.tmp 98) (.tmp 105) rfl w3.heap.size rfl hvoA rfl (news := [x]) rfl hx8.at (by intro h; cases h) (by omega) hBA.size ?_
                    intro A9 c9 w9 ho9 hb9 hg9 hc9
                    have hhp9 := hg9.1.cell hhpA hn1
                    have hyp9 := hg9.1.cell hypA hn2
                    refine hK.out _ _ ⟨hhp9, hyp9⟩ (fun hHeld => ?_)
                    clear hK K
                    (try simp only [List.getElem_toArray, List.getElem_cons_succ, List.getElem_cons_zero, Act.put, List.setIfInBounds_toArray, List.set_cons_zero, List.set_cons_succ])
                    refine wpAnyH_take (i := 14) (v := ?_) rfl (by kernel_rfl) (by kernel_rfl) (by kernel_rfl) (fun _ _ _ h => h) (Or.inl ⟨by rfl, ?_⟩) (by assumption) ?_; rotate_left; (intro w hSw; (try dsimp only at hSw); go_simp; (first | done | (with_reducible rfl))); (try simp only [List.getElem_toArray, List.getElem_cons_succ, List.getElem_cons_zero, Act.put, List.setIfInBounds_toArray, List.set_cons_zero, List.set_cons_succ])
                    have hown9 := own_grown hOA.own hg9.1 (own_ne hvoA hOA.own (by decide))
                    have hco9 := hown9.cellAt k (by simp; omega)
                    rw [HUK.out] at hco9
                    have hfo9 := hown9.frozenAt k
                    refine wpAnyH_ready (rs := [15]) (by kernel_rfl) (by simp) ?_; refine AllReadyH.cons rfl (fun K hK => ?_) AllReadyH.nil
                    go_simp
                    go_wp2_with fail
                    have hgs := grown_set w9 w3.heap.size k (.slice A9 (i + 1) c9)
                    refine hK.out _ _ ⟨hgs.cell hhp9 (by simp; omega), hgs.cell hyp9 (by simp; omega)⟩ (fun hHeld => ?_)
                    clear hK K
                    (try simp only [List.getElem_toArray, List.getElem_cons_succ, List.getElem_cons_zero, Act.put, List.setIfInBounds_toArray, List.set_cons_zero, List.set_cons_succ])
                    refine wpAnyH_done (by kernel_rfl) ?_ _
                    go_wp2_with fail
                    have hR := OwnT.repl (l' := rk ++ [x]) hOA HUK.out HLK.out hg9.1 (by rw [List.length_append, HRK.out]; exact ho9) (by rw [List.length_append, HRK.out]; simp; omega) hg9.2
                    rw [HQ.out] at hR
                    have hz9 := hb9.size
                    refine ⟨⟨k + 1, _, by omega, by go_num, hR, (hBA.trans hb9).setCell (Nat.le_refl _) _, hFk.set HUK.out hg9.2 (Nat.le_trans hzD hbA.size), fun b h1 h2 => ?_, by simp at hz9 ⊢; omega⟩, by simp [intOf]; omega⟩
                    have hn3 : some b ≠ (Value.slice Av i cv).ownBlock := fun he => by have := hfr b he.symm; omega
                    exact (hgs.block b (by simp at hz9; omega) (by simp; omega)).trans ((hg9.1.block b (by simp; omega) hn3).trans ((hbA.block b (by omega)).trans (HKPD.out b h1 h2)))
                  · go_simp
                    go_wp2_with fail
                    refine hK.out _ _ ⟨hhpA, hypA⟩ (fun hHeld => ?_); clear hK K; (try simp only [List.getElem_toArray, List.getElem_cons_succ, List.getElem_cons_zero, Act.put, List.setIfInBounds_toArray, List.set_cons_zero, List.set_cons_succ])
                    refine wpAnyH_ready (rs := [5]) (by kernel_rfl) (by simp) ?_; refine AllReadyH.cons rfl (fun K hK => ?_) AllReadyH.nil
                    go_simp
                    go_wp2_with fail
                    refine hK.out _ _ ⟨hhpA, hypA⟩ (fun hHeld => ?_); clear hK K; (try simp only [List.getElem_toArray, List.getElem_cons_succ, List.getElem_cons_zero, Act.put, List.setIfInBounds_toArray, List.set_cons_zero, List.set_cons_succ])
                    refine wpAnyH_ready (rs := [13]) (by kernel_rfl) (by simp) ?_; refine AllReadyH.cons rfl (fun K hK => ?_) AllReadyH.nil
                    refine step_app_bytes rfl (.tmp 98) (.tmp 105) rfl w3.heap.size rfl hvoA rfl (news := [x]) rfl hx8.at (by intro h; cases h) (by omega) hBA.size ?_
                    intro A9 c9 w9 ho9 hb9 hg9 hc9
                    have hhp9 := hg9.1.cell hhpA hn1
                    have hyp9 := hg9.1.cell hypA hn2
                    refine hK.out _ _ ⟨hhp9, hyp9⟩ (fun hHeld => ?_)
                    clear hK K
                    (try simp only [List.getElem_toArray, List.getElem_cons_succ, List.getElem_cons_zero, Act.put, List.setIfInBounds_toArray, List.set_cons_zero, List.set_cons_succ])
                    refine wpAnyH_take (i := 14) (v := ?_) rfl (by kernel_rfl) (by kernel_rfl) (by kernel_rfl) (fun _ _ _ h => h) (Or.inl ⟨by rfl, ?_⟩) (by assumption) ?_; rotate_left; (intro w hSw; (try dsimp only at hSw); go_simp; (first | done | (with_reducible rfl))); (try simp only [List.getElem_toArray, List.getElem_cons_succ, List.getElem_cons_zero, Act.put, List.setIfInBounds_toArray, List.set_cons_zero, List.set_cons_succ])
                    have hown9 := own_grown hOA.own hg9.1 (own_ne hvoA hOA.own (by decide))
                    have hco9 := hown9.cellAt k (by simp; omega)
                    rw [HUK.out] at hco9
                    have hfo9 := hown9.frozenAt k
                    refine wpAnyH_ready (rs := [15]) (by kernel_rfl) (by simp) ?_; refine AllReadyH.cons rfl (fun K hK => ?_) AllReadyH.nil
                    go_simp
                    go_wp2_with fail
                    have hgs := grown_set w9 w3.heap.size k (.slice A9 (i + 1) c9)
                    refine hK.out _ _ ⟨hgs.cell hhp9 (by simp; omega), hgs.cell hyp9 (by simp; omega)⟩ (fun hHeld => ?_)
                    clear hK K
                    (try simp only [List.getElem_toArray, List.getElem_cons_succ, List.getElem_cons_zero, Act.put, List.setIfInBounds_toArray, List.set_cons_zero, List.set_cons_succ])
                    refine wpAnyH_done (by kernel_rfl) ?_ _
                    go_wp2_with fail
                    have hR := OwnT.repl (l' := rk ++ [x]) hOA HUK.out HLK.out hg9.1 (by rw [List.length_append, HRK.out]; exact ho9) (by rw [List.length_append, HRK.out]; simp; omega) hg9.2
                    rw [HQ.out] at hR
                    have hz9 := hb9.size
                    refine ⟨⟨k + 1, _, by omega, by go_num, hR, (hBA.trans hb9).setCell (Nat.le_refl _) _, hFk.set HUK.out hg9.2 (Nat.le_trans hzD hbA.size), fun b h1 h2 => ?_, by simp at hz9 ⊢; omega⟩, by simp [intOf]; omega⟩
                    have hn3 : some b ≠ (Value.slice Av i cv).ownBlock := fun he => by have := hfr b he.symm; omega
                    exact (hgs.block b (by simp at hz9; omega) (by simp; omega)).trans ((hg9.1.block b (by simp; omega) hn3).trans ((hbA.block b (by omega)).trans (HKPD.out b h1 h2)))
                · obtain rfl : k = K + M := by omega
                  rw [colL_full] at hOk
                  go_wp2_with fail
                  exact ⟨⟨i + 1, us, by omega, by go_num, hOk, hBk⟩, by simp [intOf]; omega⟩
        · obtain rfl : c = i := by omega
          go_wp2_with fail
          go_ret2
          exact ⟨_, K + M, vs, by simp, hO.at, hO.texts, hB5⟩

end Go.Proofs.YtibidlgikecelaaDoor
