/- Contract: amphoraref03.Decode of shards that are enough. -/
import Derived.Test.YtibidlgikecelaaDoorT22
import Derived.Test.YtibidlgikecelaaDoorRD
namespace Go.Proofs.YtibidlgikecelaaDoor
open Go.RowKit
set_option linter.unusedVariables false
set_option linter.unusedSimpArgs false

set_option maxHeartbeats 4000000 in
set_option maxRecDepth 100000 in
theorem rdecode_calls {w : World} {K M N c cS : Nat} {S : Option Addr} {vS : List Value} {LL : List (List B8)} {Q : Mx} (hS : Shards w S vS LL N c Q) (hNK : N = K + M) (hK : 1 ≤ K) (hKM : K + M ≤ 255) (hc : 0 < c) (hc2 : c ≤ 1000)
    (hp : K ≤ (presL LL N).length) (hod : oddB LL (presL LL N) = false) :
    Calls Tryd.prog 54 #[.agg #[.int .i64 (K : Int), .int .i64 (M : Int)], .slice S N cS] w (RetX w (rowsL N c (mulM K (genM K) (decD K ((presL LL N).take K) Q))) 0) := by
  obtain ⟨bS, oS, rfl⟩ := some_of_at hS.at' (by rw [hS.tx.1, ← hS.len]; omega)
  have hbS := hS.at'.lt (by rw [hS.tx.1, ← hS.len]; omega) bS oS rfl
  obtain ⟨wa, hwa, hb1, hk0, hk1, hs1⟩ := code_box w (K : Int) (M : Int)
  have HWA := Lib.hid hwa
  clear hwa
  have HSM := Lib.hid (rsome_gen (cS := cS) (hS.at'.below hb1) (hS.tx.below hb1) hS.len hNK hK hKM (Lib.hid hod))
  obtain ⟨Bk, hBk⟩ := pres_inv hNK hKM hp
  have HDD := Lib.hid (decD_some (Q := Q) hBk)
  have HBK := Lib.hid hBk
  have HNK := Lib.hid hNK
  have hpm : ∀ x, x ∈ presL LL N → x < N ∧ LL[x]? = some (rowL c (Q x)) := fun x hx => hS.pres hx
  have HLE := Lib.hid (presL_le LL N)
  generalize presL LL N = pl at *
  have hlK : (pl.take K).length = K := by simp; omega
  have hrow : ∀ (j x : Nat), (pl.take K)[j]? = some x → x < N ∧ LL[x]? = some (rowL c (Q x)) := fun j x hx => hpm x (List.mem_of_mem_take (List.mem_of_getElem? hx))
  have hin : ∀ y, y ∈ asInts (pl.take K) → 0 ≤ y ∧ y < ((K + M : Nat) : Int) := by
    intro y hy
    obtain ⟨t, ht, rfl⟩ := List.mem_map.1 hy
    have := (hpm t (List.mem_of_mem_take ht)).1
    omega
  have hS1 := hS.at'
  have hS2 := hS.tx
  have HROW := Lib.hid hrow
  have HLK := Lib.hid hlK
  have HIN := Lib.hid hin
  have hN255 : N ≤ 255 := by omega
  clear hBk hpm hod hNK hrow hlK hin
  go_enter Tryd.func54, Tryd.ntmps54
  go_wp2_with fail
  have hwa := HWA.out
  rw [← hwa]
  clear hwa HWA
  refine HSM.out.mono ?_
  rintro e w2 ⟨Al, cl, rfl, hAl, hlc, hnil, hb2⟩
  obtain ⟨bl, ol, rfl⟩ := some_of_at hAl (by simp; omega)
  have hB2 := hb1.trans (hb2.mono hb1.size)
  have hk02 := (hb2.cell (p := ⟨w.heap.size, 0, none⟩) (block_lt hk0)).trans hk0
  have hk12 := (hb2.cell (p := ⟨w.heap.size, 1, none⟩) (block_lt hk1)).trans hk1
  have hfew : ¬ ((pl.length : Int) < (K : Int)) := by omega
  have hKc : (K : Int) ≤ (cl : Int) := by omega
  have hAK := hAl.take K
  rw [asInts_take] at hAK
  have hlow := block_lt hk0
  generalize pl.take K = lk at *
  clear HSM hk0 hk1 hb1 hb2 hs1 hAl
  go_wp2_with fail
  refine (rgener_calls hK hKM).mono ?_
  rintro e w2a ⟨A3, c3, blk3, rfl, hG3, hb3⟩
  have hGm := hG3.mat (by omega)
  have hB3 := hB2.trans (hb3.mono hB2.size)
  have hk03 := (hb3.cell (p := ⟨w.heap.size, 0, none⟩) (block_lt hk02)).trans hk02
  have hk13 := (hb3.cell (p := ⟨w.heap.size, 1, none⟩) (block_lt hk12)).trans hk12
  have hAK3 := hAK.below hb3
  obtain ⟨vG, hg1, hg2⟩ := hGm
  have HRW := Lib.hid (rrows_calls (m := K) (cA := c3) (cl := cl) hg1 hg2 hAK3 (by simp [HLK.out]) (by omega) (by omega) (by omega) (by omega) (by rw [length_asInts, HLK.out]; omega) (by rw [length_asInts, HLK.out]; omega))
  rw [wrong_all HIN.out, if_pos rfl, if_pos rfl, length_asInts, HLK.out] at HRW
  clear hk02 hk12 hb3 hG3 hg1 hg2
  go_wp2_with fail
  refine HRW.out.mono ?_
  rintro e w2b ⟨A4, c4, v4, rfl, hR1, hR2, hb4⟩
  rw [length_rowsL]
  have hB4 := hB3.trans (hb4.mono hB3.size)
  have hk04 := (hb4.cell (p := ⟨w.heap.size, 0, none⟩) (block_lt hk03)).trans hk03
  have hk14 := (hb4.cell (p := ⟨w.heap.size, 1, none⟩) (block_lt hk13)).trans hk13
  have hAK4 := hAK3.below hb4
  have HIV := Lib.hid (rinvert_gen (cA := c4) hR1 hR2 (by omega) (by omega) (RL := rowsL K K Bk) (E := 0) (fun h => by rw [HBK.out] at h; cases h) (fun R h => by rw [HBK.out] at h; cases h; exact ⟨rfl, rfl⟩))
  clear hk03 hk13 hb4 hR1 hR2 HRW hAK3
  go_wp2_with fail
  refine HIV.out.mono ?_
  rintro e w3 ⟨A5, c5, v5, rfl, hI1, hI2, hb5⟩
  rw [length_rowsL]
  have hB5 := hB4.trans (hb5.mono hB4.size)
  have hk05 := (hb5.cell (p := ⟨w.heap.size, 0, none⟩) (block_lt hk04)).trans hk04
  have hk15 := (hb5.cell (p := ⟨w.heap.size, 1, none⟩) (block_lt hk14)).trans hk14
  have hAK5 := hAK4.below hb5
  have hBm : MatAt w3 A5 K K Bk := ⟨v5, hI1, hI2⟩
  obtain ⟨x0, hx0⟩ : ∃ x0, lk[0]? = some x0 := ⟨_, List.getElem?_eq_getElem (by rw [HLK.out]; omega)⟩
  obtain ⟨hx0N, hx0L⟩ := HROW.out 0 x0 hx0
  obtain ⟨X0, cx0, hh0, _, _, _⟩ := head_at hS1 hS2 hx0L
  rw [length_rowL] at hh0
  have hh0w := (hB5.cell (p := ⟨bS, oS + x0, none⟩) hbS).trans hh0
  have hc0w := at_nat hAK5 hx0
  rw [Nat.add_zero] at hc0w
  have hx0i : (x0 : Int) < (N : Int) := by omega
  have hKi : (0 : Int) < (K : Int) := by omega
  have hlt5a := block_lt hh0w
  have hlt5b := block_lt hc0w
  have hlt5c := block_lt hk05
  clear hk04 hk14 hb5 hI1 hI2 HIV hAK4 hx0 hx0L hh0
  go_wp2_with (refine make_top rfl (.tmp 56) (.tmp 56) rfl K rfl rfl rfl rfl (by omega) ?_; intro w4 ht4 hb4 hs4; have HT := Lib.hid ht4; have hh04 := (hb4.cell (p := ⟨bS, oS + x0, none⟩) hlt5a).trans hh0w; have hc04 := (hb4.cell (p := ⟨bl, ol, none⟩) hlt5b).trans hc0w; clear ht4 hs4)
  have HRP : Hid (∀ (j x : Nat), lk[j]? = some x → x < N ∧ LL[x]? = some (rowL c (Q (lk.getD j 0)))) := fun j x hx => by rw [getD_some hx]; exact HROW.out j x hx
  clear HROW hh0w hc0w
  generalize hPP : (fun i => Q (lk.getD i 0)) = P at *
  have HPP : Hid (∀ j, Q (lk.getD j 0) = P j) := fun j => by rw [← hPP]
  have HRP2 : Hid (∀ (j x : Nat), lk[j]? = some x → x < N ∧ LL[x]? = some (rowL c (P j))) := fun j x hx => by rw [← HPP.out]; exact HRP.out j x hx
  clear hPP HPP HRP
  have hO4 : OwnT w4 w3.heap.size (some ⟨w3.heap.size, 0, none⟩) K (List.replicate K (.slice none 0 0)) (rowsL K 0 (mulM K Bk P)) := OwnT.start HT.out (Nat.le_refl _) (by omega)
  have hz3 := hb4.size
  clear HT
  go_loopw [65] (fun s wr => ∃ (i : Nat) (vs : List Value), i ≤ c ∧ s = .int .i64 ((i : Nat) : Int) ∧ OwnT wr w3.heap.size (some ⟨w3.heap.size, 0, none⟩) K vs (rowsL K i (mulM K Bk P)) ∧ Below w3.heap.size w3 wr) (fun s _ => c - (intOf s).toNat)
  case atStart => exact ⟨0, _, by omega, rfl, hO4, hb4⟩
  case round =>
    obtain ⟨i, vs, hi, rfl, hO, hb⟩ := hrel
    rename World => w5
    have hBw5 := hB5.trans (hb.mono hB5.size)
    clear hO4 hb4 hh04 hc04
    by_cases hic : i < c
    · have hii : (i : Int) < (c : Int) := by omega
      have hz5 := hb.size
      go_wp2_with fail
      go_loopw [16, 70] (fun s12 s wr => ∃ (t : Nat) (A' : Option Addr) (cap : Nat) (xs : List Value), t ≤ K ∧ s = .int .i64 ((t : Nat) : Int) ∧ s12 = .slice A' t cap ∧ OwnT wr w5.heap.size A' cap xs (rowsL t 1 (colM P i)) ∧ Below w5.heap.size w5 wr) (fun _ s _ => K - (intOf s).toNat)
      case atStart => exact ⟨0, none, 0, [], by omega, rfl, rfl, OwnT.nil _ _, Below.refl _ _⟩
      case round =>
        obtain ⟨t, A', cap, xs, ht', rfl, rfl, hC, hbc⟩ := hrel
        rename World => w6
        have hB6 := hBw5.trans (hbc.mono hBw5.size)
        have hz6 := hbc.size
        by_cases htK : t < K
        · have hti : (t : Int) < (K : Int) := by omega
          obtain ⟨x, hx⟩ : ∃ x, lk[t]? = some x := ⟨_, List.getElem?_eq_getElem (by rw [HLK.out]; exact htK)⟩
          obtain ⟨hxN, hxL⟩ := HRP2.out t x hx
          have hxi : (x : Int) < (N : Int) := by omega
          have hcl6 := at_nat ((hAK5.below hb).below hbc) hx
          obtain ⟨X, cx, hcx, hX, _, _⟩ := head_at hS1 hS2 hxL
          rw [length_rowL] at hcx
          have hcxw := (hB6.cell (p := ⟨bS, oS + x, none⟩) hbS).trans hcx
          obtain ⟨bx, ox, rfl, hby⟩ := row_byte (hX.below hB6) hic
          have hsn : rowsL (t + 1) 1 (colM P i) = rowsL t 1 (colM P i) ++ [[P t i]] := by rw [rowsL_succ]; rfl
          have HSN := Lib.hid hsn
          have hx1 := at_byte1 w6 (P t i)
          generalize P t i = y at *
          have HC := Lib.hid hC
          have HX1 := Lib.hid hx1
          clear hcx hsn hC hx1 hx hxL
          have hb7 := below1' w6 (.cells #[.int .u8 (y.toNat : Int)] 5)
          have hz7 : (w6.alloc (.cells #[.int .u8 (y.toNat : Int)] 5)).heap.size = w6.heap.size + 1 := by simp
          have hb8 := below1' (w6.alloc (.cells #[.int .u8 (y.toNat : Int)] 5)) (.cells #[.slice (some ⟨w6.heap.size, 0, none⟩) 1 1] 22)
          have hat := at_lit1 (w6.alloc (.cells #[.int .u8 (y.toNat : Int)] 5)) (.slice (some ⟨w6.heap.size, 0, none⟩) 1 1) 22
          rw [hz7] at hat
          have hb9 := hb7.trans (hb8.mono hb7.size)
          have hhead := own_below HC.out.own hb9
          rw [length_rowsL] at hhead
          have hrow := (HX1.out.own (B := w6.heap.size) (n := 1) rfl (Nat.le_refl _) (by decide))
          go_wp2_with (at_builtin; refine app_head rfl (.tmp 74) (.tmp 83) rfl w5.heap.size rfl hhead rfl (news := [.slice (some ⟨w6.heap.size, 0, none⟩) 1 1]) rfl hat (by intro u hu; rw [List.mem_singleton] at hu; subst hu; rfl) (by simp) (by omega) (by have := hb9.size; omega) ?_; intro A4' c4' w9 ho4 hb4 hg4 hc4)
          have hC9 : OwnT w9 w5.heap.size A4' c4' (xs ++ [.slice (some ⟨w6.heap.size, 0, none⟩) 1 1]) (rowsL (t + 1) 1 (colM P i)) := by
            rw [HSN.out]
            exact HC.out.push hz6 rfl (by decide) hrow (by simp) hb9 hb8 ho4 hg4
          exact ⟨⟨t + 1, A4', c4', _, by omega, by go_num, rfl, hC9, (hbc.trans (hb9.mono hz6)).trans hb4⟩, by simp [intOf]; omega⟩
        · obtain rfl : K = t := by omega
          have hO6 := hO.below hbc
          obtain ⟨vB, hg1, hg2⟩ := (hBm.below hb).below hbc
          have hg6 : w3.heap.size < w6.heap.size := (hO6.own.lt _ rfl).2
          clear hO
          go_wp2_with fail
          refine (rmatmul_calls hg1 hg2 hC.at hC.texts (by omega) (by omega) (by omega) (by omega) (by omega) (by omega)).mono ?_
          rintro e w7 ⟨A7, c7, blk7, rfl, hP, hb7⟩
          obtain ⟨g7, rfl, hW7⟩ := hP.toW (by omega) (by decide)
          have hO7 := hO6.below hb7
          have hfar := hO6.far (y := w7.heap.size)
          have hB7 : Below w3.heap.size w3 w7 := (hb.trans (hbc.mono hz5)).trans (hb7.mono (by omega))
          have hz7 := hb7.size
          have HW7 := Lib.hid hW7
          clear hg1 hg2 hP hO6 hC hb7 hbc hB6
          go_wp2_with fail
          focus
              go_loopw [94] (fun s wr => ∃ (k : Nat) (us : List Value), k ≤ K ∧ s = .int .i64 ((k : Nat) : Int) ∧ OwnT wr w3.heap.size (some ⟨w3.heap.size, 0, none⟩) (K) us (colL (K) k i (mulM K Bk P)) ∧ Below w3.heap.size w3 wr ∧ FarR w6.heap.size w7.heap.size us ∧ Hid (∀ b, w6.heap.size ≤ b → b < w7.heap.size → wr.heap[b]? = w7.heap[b]?) ∧ w7.heap.size ≤ wr.heap.size) (fun s _ => K - (intOf s).toNat)
              case atStart => exact ⟨0, vs, by omega, rfl, by rw [colL_zero]; exact hO7, hB7, hfar, fun b _ _ => rfl, Nat.le_refl _⟩
              case round =>
                obtain ⟨k, us, hk, rfl, hOk, hBk, hFk, HKP, hzk⟩ := hrel
                rename World => wk
                clear hO7 hB7 hfar
                by_cases hkN : k < K
                · have hki : (k : Int) < (K : Int) := by omega
                  have hh7 := HW7.out.cell hkN
                  have hy7 := HW7.out.byte hkN (show 0 < 1 by decide)
                  have hgr := HW7.out.ltG
                  have hbr := HW7.out.ltB hkN
                  have hhp : wk.cell? ⟨g7, k, none⟩ = some (.slice (some ⟨blk7 k, 0, none⟩) 1 1) := (World.cell?_of_block (a := ⟨g7, k, none⟩) (HKP.out g7 hgr.1 hgr.2)).trans hh7
                  have hyp : wk.cell? ⟨blk7 k, 0, none⟩ = some (.int .u8 ((mulM K Bk (colM P i) k 0).toNat : Int)) := (World.cell?_of_block (a := ⟨blk7 k, 0, none⟩) (HKP.out (blk7 k) hbr.1 hbr.2)).trans hy7
                  have hul : us.length = K := by rw [hOk.len]; simp
                  have huk : us[k]? = some us[k] := List.getElem?_eq_getElem (by omega)
                  have hlk : (colL (K) k i (mulM K Bk P))[k]? = some (rowL i (mulM K Bk P k)) := by rw [colL_get hkN, if_neg (Nat.lt_irrefl k)]
                  generalize us[k] = v at *
                  obtain ⟨hvo, _⟩ := hOk.row k v _ huk hlk
                  rw [length_rowL] at hvo
                  obtain ⟨Av, cv, rfl, _⟩ := own_form hvo
                  have hco := hOk.own.cellAt k (by simp; omega)
                  rw [huk] at hco
                  have hfo := hOk.own.frozenAt k
                  have hx : mulM K Bk (colM P i) k 0 = mulM K Bk P k i := rfl
                  rw [hx] at hyp
                  have HQ := Lib.hid (colL_set (K) k i (mulM K Bk P))
                  rw [rowL_succ] at HQ
                  generalize mulM K Bk P k i = x at *
                  generalize rowL i (mulM K Bk P k) = rk at *
                  have hrk : rk.length = i := by have := hvo.1; simpa using this
                  have HRK := Lib.hid hrk
                  have HUK := Lib.hid huk
                  have HLK := Lib.hid hlk
                  clear hrk huk hlk hh7 hy7 hx
                  go_wp2_with fail
                  have hOD : OwnT wk.drew w3.heap.size (some ⟨w3.heap.size, 0, none⟩) (K) us (colL (K) k i (mulM K Bk P)) := hOk.below (belowN 1 : Below wk.heap.size wk (wk.drewN 1))
                  have hBD : Below w3.heap.size w3 wk.drew := hBk.trans ((belowN 1 : Below wk.heap.size wk (wk.drewN 1)).mono hBk.size)
                  have hhpD : wk.drew.cell? ⟨g7, k, none⟩ = some (.slice (some ⟨blk7 k, 0, none⟩) 1 1) := hhp
                  have hypD : wk.drew.cell? ⟨blk7 k, 0, none⟩ = some (.int .u8 (x.toNat : Int)) := hyp
                  have hcoD : wk.drew.cell? ⟨w3.heap.size, k, none⟩ = some (.slice Av i cv) := hco
                  have hvoD : wk.drew.ownsRow w3.heap.size 5 1 (.slice Av i cv) i (bys rk) := hvo
                  have HKPD : Hid (∀ b, w6.heap.size ≤ b → b < w7.heap.size → wk.drew.heap[b]? = w7.heap[b]?) := HKP
                  have hzD : w7.heap.size ≤ wk.drew.heap.size := hzk
                  refine wp_region_held_drew (S := fun w' => w'.cell? ⟨g7, k, none⟩ = some (.slice (some ⟨blk7 k, 0, none⟩) 1 1) ∧ w'.cell? ⟨blk7 k, 0, none⟩ = some (.int .u8 (x.toNat : Int))) (by kernel_rfl) ⟨hhpD, hypD⟩ (fun hHeld => ?_)
                  generalize wk.drew = WD at *
                  clear hOk hBk hhp hyp hco hfo hvo HKP hzk
                  have hgo := block_lt hcoD
                  have hbA := below1' WD (.cells #[.int .u8 (x.toNat : Int)] 5)
                  have hx8 := at_byte1 WD x
                  have hcoA := (hbA.cell (p := ⟨w3.heap.size, k, none⟩) hgo).trans hcoD
                  have hhpA := (hbA.cell (p := ⟨g7, k, none⟩) (block_lt hhpD)).trans hhpD
                  have hypA := (hbA.cell (p := ⟨blk7 k, 0, none⟩) (block_lt hypD)).trans hypD
                  have hOA := hOD.below hbA
                  have hvoA := own_below hvoD hbA
                  have hBA := hBD.trans (hbA.mono hBD.size)
                  have hfr := hFk k _ HUK.out
                  have hn1 : some g7 ≠ (Value.slice Av i cv).ownBlock := fun he => by have := hfr g7 he.symm; omega
                  have hn2 : some (blk7 k) ≠ (Value.slice Av i cv).ownBlock := fun he => by have := hfr (blk7 k) he.symm; omega
                  refine wpAnyH_take (i := 0) (v := ?_) rfl (by kernel_rfl) (by kernel_rfl) (by kernel_rfl) (fun _ _ _ h => h) (Or.inl ⟨by rfl, ?_⟩) (by assumption) ?_; rotate_left; (intro w hSw; (try dsimp only at hSw); go_simp; (first | done | (with_reducible rfl))); (try simp only [List.getElem_toArray, List.getElem_cons_succ, List.getElem_cons_zero, Act.put, List.setIfInBounds_toArray, List.set_cons_zero, List.set_cons_succ])
                  refine wpAnyH_take (i := 1) (v := ?_) rfl (by kernel_rfl) (by kernel_rfl) (by kernel_rfl) (fun _ _ _ h => h) (Or.inl ⟨by rfl, ?_⟩) (by assumption) ?_; rotate_left; (intro w hSw; (try dsimp only at hSw); go_simp; (first | done | (with_reducible rfl))); (try simp only [List.getElem_toArray, List.getElem_cons_succ, List.getElem_cons_zero, Act.put, List.setIfInBounds_toArray, List.set_cons_zero, List.set_cons_succ])
                  refine wpAnyH_take (i := 2) (v := ?_) rfl (by kernel_rfl) (by kernel_rfl) (by kernel_rfl) (fun _ _ _ h => h) (Or.inl ⟨by rfl, ?_⟩) (by assumption) ?_; rotate_left; (intro w hSw; (try dsimp only at hSw); go_simp; (first | done | (with_reducible rfl))); (try simp only [List.getElem_toArray, List.getElem_cons_succ, List.getElem_cons_zero, Act.put, List.setIfInBounds_toArray, List.set_cons_zero, List.set_cons_succ])
                  refine wpAnyH_take (i := 3) (v := ?_) rfl (by kernel_rfl) (by kernel_rfl) (by kernel_rfl) (fun _ _ _ h => h) (Or.inl ⟨by rfl, ?_⟩) (by assumption) ?_; rotate_left; (intro w hSw; (try dsimp only at hSw); go_simp; (first | done | (with_reducible rfl))); (try simp only [List.getElem_toArray, List.getElem_cons_succ, List.getElem_cons_zero, Act.put, List.setIfInBounds_toArray, List.set_cons_zero, List.set_cons_succ])
                  refine wpAnyH_take (i := 6) (v := ?_) rfl (by kernel_rfl) (by kernel_rfl) (by kernel_rfl) (fun _ _ _ h => h) (Or.inl ⟨by rfl, ?_⟩) (by assumption) ?_; rotate_left; (intro w hSw; (try dsimp only at hSw); go_simp; (first | done | (with_reducible rfl))); (try simp only [List.getElem_toArray, List.getElem_cons_succ, List.getElem_cons_zero, Act.put, List.setIfInBounds_toArray, List.set_cons_zero, List.set_cons_succ])
                  refine wpAnyH_take (i := 7) (v := ?_) rfl (by kernel_rfl) (by kernel_rfl) (by kernel_rfl) (fun _ _ _ h => h) (Or.inl ⟨by rfl, ?_⟩) (by assumption) ?_; rotate_left; (intro w hSw; (try dsimp only at hSw); go_simp; (first | done | (with_reducible rfl))); (try simp only [List.getElem_toArray, List.getElem_cons_succ, List.getElem_cons_zero, Act.put, List.setIfInBounds_toArray, List.set_cons_zero, List.set_cons_succ])
                  refine wpAnyH_take (i := 4) (v := ?_) rfl (by kernel_rfl) (by kernel_rfl) (by kernel_rfl) (fun _ _ _ h => h) (Or.inl ⟨by rfl, ?_⟩) (by assumption) ?_; rotate_left; (intro w hSw; (try dsimp only at hSw); go_simp; (first | done | (with_reducible rfl))); (try simp only [List.getElem_toArray, List.getElem_cons_succ, List.getElem_cons_zero, Act.put, List.setIfInBounds_toArray, List.set_cons_zero, List.set_cons_succ])
                  refine wpAnyH_take (i := 8) (v := ?_) rfl (by kernel_rfl) (by kernel_rfl) (by kernel_rfl) (fun _ _ _ h => h) (Or.inl ⟨by rfl, ?_⟩) (by assumption) ?_; rotate_left; (intro w hSw; (try dsimp only at hSw); go_simp; (first | done | (with_reducible rfl))); (try simp only [List.getElem_toArray, List.getElem_cons_succ, List.getElem_cons_zero, Act.put, List.setIfInBounds_toArray, List.set_cons_zero, List.set_cons_succ])
                  refine wpAnyH_take (i := 9) (v := ?_) rfl (by kernel_rfl) (by kernel_rfl) (by kernel_rfl) (fun _ _ _ h => h) (Or.inl ⟨by rfl, ?_⟩) (by assumption) ?_; rotate_left; (intro w hSw; (try dsimp only at hSw); go_simp; (first | done | (with_reducible rfl))); (try simp only [List.getElem_toArray, List.getElem_cons_succ, List.getElem_cons_zero, Act.put, List.setIfInBounds_toArray, List.set_cons_zero, List.set_cons_succ])
                  refine wpAnyH_take (i := 10) (v := ?_) rfl (by kernel_rfl) (by kernel_rfl) (by kernel_rfl) (fun _ _ _ h => h) (Or.inl ⟨by rfl, ?_⟩) (by assumption) ?_; rotate_left; (intro w hSw; (try dsimp only at hSw); go_simp; (first | done | (with_reducible rfl))); (try simp only [List.getElem_toArray, List.getElem_cons_succ, List.getElem_cons_zero, Act.put, List.setIfInBounds_toArray, List.set_cons_zero, List.set_cons_succ])
                  refine wpAnyH_take (i := 11) (v := ?_) rfl (by kernel_rfl) (by kernel_rfl) (by kernel_rfl) (fun _ _ _ h => h) (Or.inl ⟨by rfl, ?_⟩) (by assumption) ?_; rotate_left; (intro w hSw; (try dsimp only at hSw); go_simp; (first | done | (with_reducible rfl))); (try simp only [List.getElem_toArray, List.getElem_cons_succ, List.getElem_cons_zero, Act.put, List.setIfInBounds_toArray, List.set_cons_zero, List.set_cons_succ])
                  refine wpAnyH_ready (rs := [5, 12]) (by kernel_rfl) (by simp) ?_
                  refine AllReadyH.cons rfl (fun K hK => ?_) (AllReadyH.cons rfl (fun K hK => ?_) AllReadyH.nil)
                  · go_simp
                    go_wp2_with fail
                    refine hK.out _ _ ⟨hhpD, hypD⟩ (fun hHeld => ?_); clear hK K; (try simp only [List.getElem_toArray, List.getElem_cons_succ, List.getElem_cons_zero, Act.put, List.setIfInBounds_toArray, List.set_cons_zero, List.set_cons_succ])
                    refine wpAnyH_ready (rs := [12]) (by kernel_rfl) (by simp) ?_; refine AllReadyH.cons rfl (fun K hK => ?_) AllReadyH.nil
                    go_simp
                    go_wp2_with fail
                    refine hK.out _ _ ⟨hhpA, hypA⟩ (fun hHeld => ?_); clear hK K; (try simp only [List.getElem_toArray, List.getElem_cons_succ, List.getElem_cons_zero, Act.put, List.setIfInBounds_toArray, List.set_cons_zero, List.set_cons_succ])
                    refine wpAnyH_ready (rs := [13]) (by kernel_rfl) (by simp) ?_; refine AllReadyH.cons rfl (fun K hK => ?_) AllReadyH.nil
                    refine step_app_bytes rfl (.tmp 102) (.tmp 109) rfl w3.heap.size rfl hvoA rfl (news := [x]) rfl hx8.at (by intro h; cases h) (by omega) hBA.size ?_
                    intro A9 c9 w9 ho9 hb9 hg9 hc9
                    have hhp9 := hg9.1.cell hhpA hn1
                    have hyp9 := hg9.1.cell hypA hn2
                    refine hK.out _ _ ⟨hhp9, hyp9⟩ (fun hHeld => ?_)
                    clear hK K
                    (try simp only [List.getElem_toArray, List.getElem_cons_succ, List.getElem_cons_zero, Act.put, List.setIfInBounds_toArray, List.set_cons_zero, List.set_cons_succ])
                    refine wpAnyH_take (i := 14) (v := ?_) rfl (by kernel_rfl) (by kernel_rfl) (by kernel_rfl) (fun _ _ _ h => h) (Or.inl ⟨by rfl, ?_⟩) (by assumption) ?_; rotate_left; (intro w hSw; (try dsimp only at hSw); go_simp; (first | done | (with_reducible rfl))); (try simp only [List.getElem_toArray, List.getElem_cons_succ, List.getElem_cons_zero, Act.put, List.setIfInBounds_toArray, List.set_cons_zero, List.set_cons_succ])
                    have hown9 := own_grown hOA.own hg9.1 (own_ne hvoA hOA.own (by decide))
                    have hco9 := hown9.cellAt k (by simp; omega)
                    rw [HUK.out] at hco9
                    have hfo9 := hown9.frozenAt k
                    refine wpAnyH_ready (rs := [15]) (by kernel_rfl) (by simp) ?_; refine AllReadyH.cons rfl (fun K hK => ?_) AllReadyH.nil
                    go_simp
                    go_wp2_with fail
                    have hgs := grown_set w9 w3.heap.size k (.slice A9 (i + 1) c9)
                    refine hK.out _ _ ⟨hgs.cell hhp9 (by simp; omega), hgs.cell hyp9 (by simp; omega)⟩ (fun hHeld => ?_)
                    clear hK K
                    (try simp only [List.getElem_toArray, List.getElem_cons_succ, List.getElem_cons_zero, Act.put, List.setIfInBounds_toArray, List.set_cons_zero, List.set_cons_succ])
                    refine wpAnyH_done (by kernel_rfl) ?_ _
                    go_wp2_with fail
                    have hR := OwnT.repl (l' := rk ++ [x]) hOA HUK.out HLK.out hg9.1 (by rw [List.length_append, HRK.out]; exact ho9) (by rw [List.length_append, HRK.out]; simp; omega) hg9.2
                    rw [HQ.out] at hR
                    have hz9 := hb9.size
                    refine ⟨⟨k + 1, _, by omega, by go_num, hR, (hBA.trans hb9).setCell (Nat.le_refl _) _, hFk.set HUK.out hg9.2 (Nat.le_trans hzD hbA.size), fun b h1 h2 => ?_, by simp at hz9 ⊢; omega⟩, by simp [intOf]; omega⟩
                    have hn3 : some b ≠ (Value.slice Av i cv).ownBlock := fun he => by have := hfr b he.symm; omega
                    exact (hgs.block b (by simp at hz9; omega) (by simp; omega)).trans ((hg9.1.block b (by simp; omega) hn3).trans ((hbA.block b (by omega)).trans (HKPD.out b h1 h2)))
                  · go_simp
                    go_wp2_with fail
                    refine hK.out _ _ ⟨hhpA, hypA⟩ (fun hHeld => ?_); clear hK K; (try simp only [List.getElem_toArray, List.getElem_cons_succ, List.getElem_cons_zero, Act.put, List.setIfInBounds_toArray, List.set_cons_zero, List.set_cons_succ])
                    refine wpAnyH_ready (rs := [5]) (by kernel_rfl) (by simp) ?_; refine AllReadyH.cons rfl (fun K hK => ?_) AllReadyH.nil
                    go_simp
                    go_wp2_with fail
                    refine hK.out _ _ ⟨hhpA, hypA⟩ (fun hHeld => ?_); clear hK K; (try simp only [List.getElem_toArray, List.getElem_cons_succ, List.getElem_cons_zero, Act.put, List.setIfInBounds_toArray, List.set_cons_zero, List.set_cons_succ])
                    refine wpAnyH_ready (rs := [13]) (by kernel_rfl) (by simp) ?_; refine AllReadyH.cons rfl (fun K hK => ?_) AllReadyH.nil
                    refine step_app_bytes rfl (.tmp 102) (.tmp 109) rfl w3.heap.size rfl hvoA rfl (news := [x]) rfl hx8.at (by intro h; cases h) (by omega) hBA.size ?_
                    intro A9 c9 w9 ho9 hb9 hg9 hc9
                    have hhp9 := hg9.1.cell hhpA hn1
                    have hyp9 := hg9.1.cell hypA hn2
                    refine hK.out _ _ ⟨hhp9, hyp9⟩ (fun hHeld => ?_)
                    clear hK K
                    (try simp only [List.getElem_toArray, List.getElem_cons_succ, List.getElem_cons_zero, Act.put, List.setIfInBounds_toArray, List.set_cons_zero, List.set_cons_succ])
                    refine wpAnyH_take (i := 14) (v := ?_) rfl (by kernel_rfl) (by kernel_rfl) (by kernel_rfl) (fun _ _ _ h => h) (Or.inl ⟨by rfl, ?_⟩) (by assumption) ?_; rotate_left; (intro w hSw; (try dsimp only at hSw); go_simp; (first | done | (with_reducible rfl))); (try simp only [List.getElem_toArray, List.getElem_cons_succ, List.getElem_cons_zero, Act.put, List.setIfInBounds_toArray, List.set_cons_zero, List.set_cons_succ])
                    have hown9 := own_grown hOA.own hg9.1 (own_ne hvoA hOA.own (by decide))
                    have hco9 := hown9.cellAt k (by simp; omega)
                    rw [HUK.out] at hco9
                    have hfo9 := hown9.frozenAt k
                    refine wpAnyH_ready (rs := [15]) (by kernel_rfl) (by simp) ?_; refine AllReadyH.cons rfl (fun K hK => ?_) AllReadyH.nil
                    go_simp
                    go_wp2_with fail
                    have hgs := grown_set w9 w3.heap.size k (.slice A9 (i + 1) c9)
                    refine hK.out _ _ ⟨hgs.cell hhp9 (by simp; omega), hgs.cell hyp9 (by simp; omega)⟩ (fun hHeld => ?_)
                    clear hK K
                    (try simp only [List.getElem_toArray, List.getElem_cons_succ, List.getElem_cons_zero, Act.put, List.setIfInBounds_toArray, List.set_cons_zero, List.set_cons_succ])
                    refine wpAnyH_done (by kernel_rfl) ?_ _
                    go_wp2_with fail
                    have hR := OwnT.repl (l' := rk ++ [x]) hOA HUK.out HLK.out hg9.1 (by rw [List.length_append, HRK.out]; exact ho9) (by rw [List.length_append, HRK.out]; simp; omega) hg9.2
                    rw [HQ.out] at hR
                    have hz9 := hb9.size
                    refine ⟨⟨k + 1, _, by omega, by go_num, hR, (hBA.trans hb9).setCell (Nat.le_refl _) _, hFk.set HUK.out hg9.2 (Nat.le_trans hzD hbA.size), fun b h1 h2 => ?_, by simp at hz9 ⊢; omega⟩, by simp [intOf]; omega⟩
                    have hn3 : some b ≠ (Value.slice Av i cv).ownBlock := fun he => by have := hfr b he.symm; omega
                    exact (hgs.block b (by simp at hz9; omega) (by simp; omega)).trans ((hg9.1.block b (by simp; omega) hn3).trans ((hbA.block b (by omega)).trans (HKPD.out b h1 h2)))
                · obtain rfl : k = K := by omega
                  rw [colL_full] at hOk
                  go_wp2_with fail
                  exact ⟨⟨i + 1, us, by omega, by go_num, hOk, hBk⟩, by simp [intOf]; omega⟩
    · obtain rfl : c = i := by omega
      have hk06 := (hb.cell (p := ⟨w.heap.size, 0, none⟩) hlt5c).trans hk05
      have hk16 := (hb.cell (p := ⟨w.heap.size, 1, none⟩) hlt5c).trans hk15
      have HEN := Lib.hid (rencode_calls (w := w5) (M := M) (cS := K) (show MatAt w5 (some ⟨w3.heap.size, 0, none⟩) K c (mulM K Bk P) from ⟨vs, hO.at, hO.texts⟩) hK hKM hc hc2)
      clear hO hb hk05 hk15
      go_wp2_with fail
      refine HEN.out.mono ?_
      rintro e w9 ⟨A9, c9, v9, rfl, h1, h2, h3⟩
      go_wp2_with fail
      go_ret2
      have hNe := HNK.out
      rw [hNe, HDD.out]
      exact ⟨A9, c9, v9, by simp, h1, h2, hBw5.trans (h3.mono hBw5.size)⟩

end Go.Proofs.YtibidlgikecelaaDoor
