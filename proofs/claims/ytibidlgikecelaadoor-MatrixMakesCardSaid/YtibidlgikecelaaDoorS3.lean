/- Contract: stripe.Cut. -/
import Derived.Test.YtibidlgikecelaaDoorS2
namespace Go.Proofs.YtibidlgikecelaaDoor
open Go.RowKit
set_option linter.unusedVariables false
set_option linter.unusedSimpArgs false

theorem lenS_le {K s : Nat} (hK : 1 ≤ K) (hs : s ≤ 400) : lenS K s ≤ 1000 := by
  have : (s + K * 8 - 1) / (K * 8) ≤ 51 := Nat.div_le_of_le_mul (by omega)
  unfold lenS
  omega
theorem lenS_pos (K s : Nat) : 8 ≤ lenS K s := by unfold lenS; omega
theorem lenS_mul (K s : Nat) : lenS K s = 8 * (lenS K s / 8) := by unfold lenS; omega

theorem step_make_row {w : World} {ops : Array Oper} {E : Prop} {o : Oper} {a : Act} {K : Act → World → Prop} {Q : Exit → Act → World → Prop}
    (hg : o.guard = none) (l c : Operand) (hop : o.op = Op.makeSlice 22 l c) {L C : Int} (n : Nat) (hl : a.eval l = .int .i64 L) (hc : a.eval c = .int .i64 C) (hL : L = (n : Int)) (hC : C = (n : Int))
    (b2 : n ≤ 140737488351232)
    (hK : ∀ w', RowB w' w.heap.size (rowL n fun _ => 0#8) → Below w.heap.size w w' → w'.heap.size = w.heap.size + 1 → K (a.put o.dst (.slice (some ⟨w.heap.size, 0, none⟩) n n)) w') :
    if Region.wanted o (yielded ops a.tmps) = true then o.wp Tryd.prog a w K Q else E := by
  rw [if_pos (by simp [Region.wanted, hg])]
  subst hL hC
  obtain ⟨i, hi, hz0, hz1, hz2⟩ := info_parts u8info
  have hr := run_make (P := Tryd.prog) w 22 5 i (.int .u8 0) Tryd.underlying22 hi hz0 .i64 .i64 n n (by omega) (Int.le_refl _) (by rw [hz2]; omega) (by omega)
  simp only [Int.toNat_natCast] at hr
  unfold Oper.wp
  simp [execOp, hop, hl, hc, hr, Result.andThen]
  refine hK _ ?_ (below1' _ _) (by simp)
  unfold RowB
  rw [heap_alloc_new]
  congr 2
  rw [hz1, Nat.mul_one, rowL_const]
  apply Array.ext'
  rw [show (Value.int .u8 0).cells = #[Value.int .u8 0] from rfl, toList_madeCells_one]
  simp [bys, bv]

set_option maxHeartbeats 1000000 in
set_option maxRecDepth 100000 in
theorem cut_calls {w : World} {n c K M : Nat} {A : Option Addr} {lb : List B8} (hA : At w A (bys lb)) (hn : n = lb.length) (hc : lb.length ≤ c) (hla : lb.length ≤ 400) (hK : 1 ≤ K) (hKM : K + M ≤ 255) (hF : FoldAt w) :
    Calls Tryd.prog 39 #[.agg #[.int .i64 (K : Int), .int .i64 (M : Int)], .slice A n c] w (RetO w (K + M) (lenS K lb.length) (mulM K (genM K) (cutD lb K))) := by
  subst hn
  have HL := fun (W : World) => Lib.hid (length_calls (w := W) hK hKM hla)
  have hn1 := lenS_le hK hla
  have hn2 := lenS_pos K lb.length
  have HQ : Hid (lenS K lb.length = 8 * (lenS K lb.length / 8)) := lenS_mul K lb.length
  generalize lenS K lb.length / 8 = q at *
  generalize lenS K lb.length = nn at *
  have hnz : ((nn : Int) == 0) = false := by simp; omega
  have hb2 := below2 w (.cells #[.int .i64 (K : Int), .int .i64 (M : Int)] 38) (.cells #[.slice A lb.length c] 22)
  have hcode : ((w.alloc (.cells #[.int .i64 (K : Int), .int .i64 (M : Int)] 38)).alloc (.cells #[.slice A lb.length c] 22)).heap[w.heap.size]? = some (.cells #[.int .i64 (K : Int), .int .i64 (M : Int)] 38 (0, 0)) := by
    rw [Below.heap_alloc _ _ _ (by simp)]
    exact heap_alloc_new _ _
  have hbl : ((w.alloc (.cells #[.int .i64 (K : Int), .int .i64 (M : Int)] 38)).alloc (.cells #[.slice A lb.length c] 22)).cell? ⟨w.heap.size + 1, 0, none⟩ = some (.slice A lb.length c) := by
    simp
  go_enter Tryd.func39, Tryd.ntmps39
  go_wp2_with fail
  generalize (w.alloc (.cells #[.int .i64 (K : Int), .int .i64 (M : Int)] 38)).alloc (.cells #[.slice A lb.length c] 22) = w2 at *
  have hk0 := cell_of_row w2 w.heap.size 0 _ _ (0, 0) hcode
  have hk1 := cell_of_row w2 w.heap.size 1 _ _ (0, 0) hcode
  simp at hk0 hk1
  have hsw := block_lt hbl
  refine (HL _).out.mono ?_
  rintro e w3 ⟨rfl, hb3⟩
  have hbl3 := (hb3.cell (p := ⟨w.heap.size + 1, 0, none⟩) hsw).trans hbl
  have hk03 := (hb3.cell (p := ⟨w.heap.size, 0, none⟩) (by simp; omega)).trans hk0
  have hk13 := (hb3.cell (p := ⟨w.heap.size, 1, none⟩) (by simp; omega)).trans hk1
  have hB3 := hb2.trans (hb3.mono hb2.size)
  have hsz3 : w.heap.size + 1 < w3.heap.size := Nat.lt_of_lt_of_le hsw hb3.size
  clear hb2 hb3 hk0 hk1 hbl hcode hsw HL
  clear w2
  go_wp2_with (refine make_top rfl (.tmp 16) (.tmp 16) rfl K rfl rfl rfl rfl (by omega) ?_; intro w4 ht4 hb4 hs4)
  have hb5 := hb4.trans ((below1' w4 (.cells #[.slice (some ⟨w3.heap.size, 0, none⟩) K K] 24)).mono hb4.size)
  have hpd := cell_of_row _ _ 0 _ _ (0, 0) (heap_alloc_new w4 (.cells #[.slice (some ⟨w3.heap.size, 0, none⟩) K K] 24))
  rw [hs4] at hpd
  have ht5 := ((below1' w4 (.cells #[.slice (some ⟨w3.heap.size, 0, none⟩) K K] 24)).block w3.heap.size (by omega)).trans ht4
  have hs5 : (w4.alloc (.cells #[.slice (some ⟨w3.heap.size, 0, none⟩) K K] 24)).heap.size = w3.heap.size + 1 + 1 := by simp; exact hs4
  generalize w4.alloc (.cells #[.slice (some ⟨w3.heap.size, 0, none⟩) K K] 24) = w5 at *
  simp at hpd
  clear hb4 ht4 hs4
  have HT := Lib.hid ht5
  have HS := Lib.hid hs5
  clear ht5 hs5
  go_loopw [20] (fun s wr => ∃ i : Nat, i ≤ K ∧ s = .int .i64 ((i : Nat) : Int) ∧ Hid (wr.heap[w3.heap.size]? = some (.cells (headsAt (w3.heap.size + 1) K nn i).toArray 22 (0, 0))) ∧
    Hid (∀ k, k < i → RowB wr (w3.heap.size + 1 + 1 + k) (rowL nn fun _ => 0#8)) ∧ Hid (wr.heap.size = w3.heap.size + 1 + 1 + i) ∧ wr.cell? ⟨w3.heap.size + 1, 0, none⟩ = some (.slice (some ⟨w3.heap.size, 0, none⟩) K K) ∧ Below w3.heap.size w3 wr) (fun s _ => K - (intOf s).toNat)
  case atStart => exact ⟨0, Nat.zero_le _, rfl, by rw [headsAt_zero]; exact HT.out, fun k hk => absurd hk (Nat.not_lt_zero _), HS.out, hpd, hb5⟩
  case round =>
    obtain ⟨i, hi, rfl, HTr, HRr, HSr, hpdr, hBr⟩ := hrel
    clear HT HS hpd hb5
    by_cases hiK : i < K
    · have hii : (i : Int) < (K : Int) := by omega
      go_wp2_with fail
      have hpdD : wr.drew.cell? ⟨w3.heap.size + 1, 0, none⟩ = some (.slice (some ⟨w3.heap.size, 0, none⟩) K K) := hpdr
      have HTD : Hid (wr.drew.heap[w3.heap.size]? = some (.cells (headsAt (w3.heap.size + 1) K nn i).toArray 22 (0, 0))) := HTr
      have HRD : Hid (∀ k, k < i → RowB wr.drew (w3.heap.size + 1 + 1 + k) (rowL nn fun _ => 0#8)) := HRr
      have HSD : Hid (wr.drew.heap.size = w3.heap.size + 1 + 1 + i) := HSr
      have hBD : Below w3.heap.size w3 wr.drew := hBr.drew
      refine wp_region_held_drew (S := fun w' => w'.cell? ⟨w3.heap.size + 1, 0, none⟩ = some (.slice (some ⟨w3.heap.size, 0, none⟩) K K)) (by kernel_rfl) hpdD (fun hHeld => ?_)
      generalize wr.drew = WD at *
      clear hpdr HTr HRr HSr hBr
      have hwi : IntKind.i64.wrap (i : Int) = (i : Int) := IntWalk.i64_in _ (by omega)
      refine wpAnyH_take (i := 0) (v := ?_) rfl (by kernel_rfl) (by kernel_rfl) (by kernel_rfl) (fun _ _ _ h => h) (Or.inl ⟨by rfl, ?_⟩) (by assumption) ?_; rotate_left; (intro w hSw; (try dsimp only at hSw); go_simp; (first | done | (with_reducible rfl))); (try simp only [List.getElem_toArray, List.getElem_cons_succ, List.getElem_cons_zero, Act.put, List.setIfInBounds_toArray, List.set_cons_zero, List.set_cons_succ])
      refine wpAnyH_take (i := 1) (v := ?_) rfl (by kernel_rfl) (by kernel_rfl) (by kernel_rfl) (fun _ _ _ h => h) (Or.inl ⟨by rfl, ?_⟩) (by assumption) ?_; rotate_left; (intro w hSw; (try dsimp only at hSw); go_simp; (first | done | (with_reducible rfl))); (try simp only [List.getElem_toArray, List.getElem_cons_succ, List.getElem_cons_zero, Act.put, List.setIfInBounds_toArray, List.set_cons_zero, List.set_cons_succ])
      refine wpAnyH_take (i := 2) (v := ?_) rfl (by kernel_rfl) (by kernel_rfl) (by kernel_rfl) (fun _ _ _ h => h) (Or.inl ⟨by rfl, ?_⟩) (by assumption) ?_; rotate_left; (intro w hSw; (try dsimp only at hSw); go_simp; (first | done | (with_reducible rfl))); (try simp only [List.getElem_toArray, List.getElem_cons_succ, List.getElem_cons_zero, Act.put, List.setIfInBounds_toArray, List.set_cons_zero, List.set_cons_succ])
      refine wpAnyH_ready (rs := [3]) (by kernel_rfl) (by simp) ?_; refine AllReadyH.cons rfl (fun K hK => ?_) AllReadyH.nil
      refine step_make_row rfl (.tmp 25) (.tmp 25) rfl nn rfl rfl rfl rfl (by omega) ?_
      intro w6 hr6 hb6 hs6
      refine hK.out _ _ ((hb6.cell (p := ⟨w3.heap.size + 1, 0, none⟩) (block_lt hpdD)).trans hpdD) (fun hHeld => ?_)
      clear hK K
      (try simp only [List.getElem_toArray, List.getElem_cons_succ, List.getElem_cons_zero, Act.put, List.setIfInBounds_toArray, List.set_cons_zero, List.set_cons_succ])
      refine wpAnyH_take (i := 4) (v := ?_) rfl (by kernel_rfl) (by kernel_rfl) (by kernel_rfl) (fun _ _ _ h => h) (Or.inl ⟨by rfl, ?_⟩) (by assumption) ?_; rotate_left; (intro w hSw; (try dsimp only at hSw); go_simp; (first | done | (with_reducible rfl))); (try simp only [List.getElem_toArray, List.getElem_cons_succ, List.getElem_cons_zero, Act.put, List.setIfInBounds_toArray, List.set_cons_zero, List.set_cons_succ])
      rw [HSD.out] at hr6 hb6 hs6
      rw [HSD.out]
      have hsB : w3.heap.size ≤ w3.heap.size + 1 + 1 + i := by omega
      have ht6 := (hb6.block w3.heap.size (by omega)).trans HTD.out
      have hc6 := cell_of_row w6 w3.heap.size i _ _ (0, 0) ht6
      rw [List.getElem?_toArray, headsAt_get _ _ _ _ hiK] at hc6
      have hf6 := frozen_of_row w6 w3.heap.size i _ _ ht6
      have hset := heap_setCell_same w6 w3.heap.size i _ _ (.slice (some ⟨w3.heap.size + 1 + 1 + i, 0, none⟩) nn nn) ht6
      rw [List.setIfInBounds_toArray, headsAt_set] at hset
      have hgs := grown_set w6 w3.heap.size i (.slice (some ⟨w3.heap.size + 1 + 1 + i, 0, none⟩) nn nn)
      have hR6 := hr6.grown hgs (by simp; omega)
      have hold : ∀ k, k < i → RowB (w6.setCell ⟨w3.heap.size, i, none⟩ (.slice (some ⟨w3.heap.size + 1 + 1 + i, 0, none⟩) nn nn)) (w3.heap.size + 1 + 1 + k) (rowL nn fun _ => 0#8) := fun k hk => ((HRD.out k hk).below hb6 (by omega)).grown hgs (by simp; omega)
      have hB6 : Below w3.heap.size w3 (w6.setCell ⟨w3.heap.size, i, none⟩ (.slice (some ⟨w3.heap.size + 1 + 1 + i, 0, none⟩) nn nn)) := (hBD.trans (hb6.mono hsB)).setCell (Nat.le_refl _) _
      have hpd6 := hgs.cell hHeld (by simp)
      have HSET := Lib.hid hset
      have HR6 := Lib.hid hR6
      have HO6 := Lib.hid hold
      have HS6 : Hid ((w6.setCell ⟨w3.heap.size, i, none⟩ (.slice (some ⟨w3.heap.size + 1 + 1 + i, 0, none⟩) nn nn)).heap.size = w3.heap.size + 1 + 1 + i + 1) := Lib.hid (by simp [World.setCell]; exact hs6)
      clear hset hR6 hold ht6 hr6 hs6 hwi
      refine wpAnyH_ready (rs := [5]) (by kernel_rfl) (by simp) ?_; refine AllReadyH.cons rfl (fun K hK => ?_) AllReadyH.nil
      go_simp
      go_wp2_with fail
      refine hK.out _ _ hpd6 (fun hHeld => ?_)
      clear hK K
      (try simp only [List.getElem_toArray, List.getElem_cons_succ, List.getElem_cons_zero, Act.put, List.setIfInBounds_toArray, List.set_cons_zero, List.set_cons_succ])
      refine wpAnyH_done (by kernel_rfl) ?_ _
      go_wp2_with fail
      refine ⟨⟨i + 1, by omega, by go_num, HSET.out, fun k hk => ?_, HS6.out, hpd6, hB6⟩, by simp [intOf]; omega⟩
      by_cases hki : k < i
      · exact HO6.out k hki
      · obtain rfl : k = i := by omega
        exact HR6.out
    · obtain rfl : K = i := by omega
      have hte := HTr.out
      rw [headsAt_end] at hte
      have hlow : w.heap.size + 1 < w3.heap.size := hsz3
      have hBw := hB3.trans (hBr.mono hB3.size)
      have hblr := (hBr.cell (p := ⟨w.heap.size + 1, 0, none⟩) hsz3).trans hbl3
      have hk0r := (hBr.cell (p := ⟨w.heap.size, 0, none⟩) (by simp; omega)).trans hk03
      have hk1r := (hBr.cell (p := ⟨w.heap.size, 1, none⟩) (by simp; omega)).trans hk13
      have hszr := HSr.out
      have hww := hB3.size
      have hpdq := hpdr
      have HUC := Lib.hid (unitsCut_calls (w := wr) (M := M) (B := w3.heap.size + 1 + 1) (pb := w.heap.size + 1) (pd := w3.heap.size + 1) (g := w3.heap.size) (blk := fun k => w3.heap.size + 1 + 1 + k) hblr
        (fun W hW => hA.below (hBw.trans (hW.mono (by omega)))) hc hla hpdr (fun k hk => by
          have h := cell_of_row wr w3.heap.size k _ _ (0, 0) hte
          rw [List.getElem?_toArray, headsV_get hk] at h
          exact h) HRr.out (fun a b _ _ h => by omega) (fun k _ => by omega) (by omega) (by omega) (by omega) (by omega) HQ hn1 (by omega))
      clear hlow hbl3 hk03 hk13 HRr HTr hpdr
      go_wp2_with fail
      refine HUC.out.mono ?_
      rintro e w7 ⟨rfl, hb7, hR7⟩
      have hG7 : Grid w7 w3.heap.size w3.heap.size (fun k => w3.heap.size + 1 + 1 + k) K nn (cutD lb K) :=
        ⟨(hb7.block w3.heap.size (by omega)).trans hte, hR7, by intro a b _ _ h; omega, Nat.le_refl _, by intro k _; omega⟩
      have hX := hG7.mat (by omega)
      have hB7 := hBw.trans (hb7.mono (by omega))
      have hk07 := (hb7.cell (p := ⟨w.heap.size, 0, none⟩) (by simp; omega)).trans hk0r
      have hk17 := (hb7.cell (p := ⟨w.heap.size, 1, none⟩) (by simp; omega)).trans hk1r
      have hpd7 := (hb7.cell (p := ⟨w3.heap.size + 1, 0, none⟩) (by simp)).trans hpdq
      have HE := Lib.hid (encode_calls (M := M) (cS := K) hX hK (by omega) (by omega) (by omega) (FoldAt.below hF hB7))
      clear hk0r hk1r hte hR7 hG7 HUC hszr HSr
      go_wp2_with fail
      refine HE.out.mono ?_
      rintro e w8 ⟨A8, c8, b8, rfl, hG8, hb8⟩
      go_wp2_with fail
      go_ret2
      exact ⟨A8, c8, b8, rfl, hG8.lower hB7.size, hB7.trans (hb8.mono hB7.size)⟩

end Go.Proofs.YtibidlgikecelaaDoor
