/- Contract: the law ReedLinear. -/
import Derived.Test.YtibidlgikecelaaDoorTA
import Derived.Test.YtibidlgikecelaaDoorR7
namespace Go.Proofs.YtibidlgikecelaaDoor
open Go.RowKit
set_option linter.unusedVariables false
set_option linter.unusedSimpArgs false

/-- A sum in the making. -/
def addTo (i j : Nat) (P Q : Mx) : Mx := fun r k => if r < i ∨ (r = i ∧ k < j) then P r k ^^^ Q r k else P r k
def addM (P Q : Mx) : Mx := fun r k => P r k ^^^ Q r k
theorem addTo_zero (P Q : Mx) : addTo 0 0 P Q = P := by funext r k; simp [addTo]
theorem addTo_at (i j : Nat) (P Q : Mx) : addTo i j P Q i j = P i j := by simp [addTo]
theorem addTo_step (i j : Nat) (P Q : Mx) : putR (addTo i j P Q) i (fun k => if k = j then P i j ^^^ Q i j else addTo i j P Q i k) = addTo i (j + 1) P Q := by
  funext r k
  unfold putR addTo
  by_cases hr : r = i
  · subst hr
    by_cases hk : k = j
    · subst hk; simp
    · have : (k < j + 1) = (k < j) := by simp; omega
      simp [hk, this]
  · simp [hr]
theorem addTo_next (i n c : Nat) (P Q : Mx) (r : Nat) : EqM r c (addTo i c P Q) (addTo (i + 1) 0 P Q) := by
  intro a b ha hb
  unfold addTo
  by_cases h : a < i
  · have : a < i + 1 := by omega
    simp [h, this]
  · by_cases h2 : a = i
    · subst h2; simp [hb]
    · have : ¬ a < i + 1 := by omega
      simp [h, h2, this]
theorem addTo_end (r c : Nat) (P Q : Mx) : EqM r c (addTo r 0 P Q) (addM P Q) := by
  intro a b ha hb
  simp [addTo, addM, ha]
theorem word_add {K r c : Nat} (D E : Mx) : EqM r c (mulM K (genM K) (addM (mulM K (genM K) D) (mulM K (genM K) E))) (addM (mulM K (genM K) D) (mulM K (genM K) E)) := by
  intro i j hi hj
  have h1 := gen_again (K := K) (c := c) (r := r) D i j hi hj
  have h2 := gen_again (K := K) (c := c) (r := r) E i j hi hj
  have h3 : mulM K (genM K) (addM (mulM K (genM K) D) (mulM K (genM K) E)) i j = mulM K (genM K) (mulM K (genM K) D) i j ^^^ mulM K (genM K) (mulM K (genM K) E) i j := by
    show xs K _ = xs K _ ^^^ xs K _
    rw [← xs_add]
    exact xs_congr fun k _ => gm_add_right _ _ _
  rw [h3, h1, h2]
  rfl

set_option maxHeartbeats 2000000 in
set_option maxRecDepth 100000 in
theorem reedLinear_calls {w : World} {A B : Option Addr} {na ca nb cb : Nat} {la lb : List B8} {x y z : Int} (hA : At w A (bys la)) (hna : na = la.length) (hma : la.length ≤ 140737488351232)
    (hB : At w B (bys lb)) (hnb : nb = lb.length) (hmb : lb.length ≤ 140737488351232) (hF : FoldAt w) :
    Calls Tryd.prog 13 #[.int .i64 x, .int .i64 y, .int .i64 z, .slice A na ca, .slice B nb cb] w (RetV w (.bool true)) := by
  obtain ⟨K, hK1, hK2, hKe⟩ := pick_add 1 x 12 (by decide) (by decide) (by decide)
  obtain ⟨M, hM2, hMe⟩ := pick_mod y 6 (by decide) (by decide)
  obtain ⟨n, hn1, hn2, hne⟩ := pick_add 1 z 10 (by decide) (by decide) (by decide)
  rw [Int.natCast_one] at hKe hne
  subst hna hnb
  have HMD := Lib.hid (made_calls (w := w) (ca := ca) hA rfl hma (Lib.hid hKe) (Lib.hid hMe) (Lib.hid hne) hK1 (by omega) (by omega) hn1 (by omega) hF)
  have HMD2 := Lib.hid (fun (w1 : World) (hb : Below w.heap.size w w1) => made_calls (w := w1) (ca := cb) (hB.below hb) rfl hmb (Lib.hid hKe) (Lib.hid hMe) (Lib.hid hne) hK1 (by omega) (by omega) hn1 (by omega) (FoldAt.below hF hb))
  clear hKe hMe hne
  have hK12 : K ≤ 12 := by omega
  have hM6 : M < 6 := by omega
  have hn10 : n ≤ 10 := by omega
  have HW := Lib.hid (word_add (K := K) (r := K + M) (c := n) (sqM la n) (sqM lb n))
  clear hK2 hM2 hn2 hA hB hma hmb
  go_enter Tryd.func13, Tryd.ntmps13
  go_wp2_with fail
  refine HMD.out.mono ?_
  rintro e w1 ⟨A1, c1, blk, rfl, hG, HB⟩
  obtain ⟨g, rfl, hgB, _, _, _⟩ := hG.cell (i := 0) (by omega)
  have heq := fun (w : World) => Lib.run_eql_slice_nil (P := Tryd.prog) w 24 22 (some ⟨g, 0, none⟩) (K + M) c1 0 0 Tryd.underlying24
  have hbw := below1' w1 (.cells #[.int .i64 (K : Int), .int .i64 (M : Int)] 38)
  have hk0 : (w1.alloc (.cells #[.int .i64 (K : Int), .int .i64 (M : Int)] 38)).cell? ⟨w1.heap.size, 0, none⟩ = some (.int .i64 (K : Int)) := cell_of_row _ _ 0 _ _ (0, 0) (heap_alloc_new w1 _)
  have hk1 : (w1.alloc (.cells #[.int .i64 (K : Int), .int .i64 (M : Int)] 38)).cell? ⟨w1.heap.size, 1, none⟩ = some (.int .i64 (M : Int)) := cell_of_row _ _ 1 _ _ (0, 0) (heap_alloc_new w1 _)
  have hGw := hG.below hbw
  have hBw := HB.trans (hbw.mono HB.size)
  clear HMD hG HB hbw
  generalize mulM K (genM K) (sqM la n) = Q1 at *
  go_wp2_with fail
  generalize w1.alloc (.cells #[.int .i64 (K : Int), .int .i64 (M : Int)] 38) = w2 at *
  refine (HMD2.out w2 hBw).mono ?_
  rintro e w3 ⟨A3, c3, blk3, rfl, hG3, hb3⟩
  obtain ⟨g3, rfl, hg3B, _, _, _⟩ := hG3.cell (i := 0) (by omega)
  have heq3 := fun (w : World) => Lib.run_eql_slice_nil (P := Tryd.prog) w 24 22 (some ⟨g3, 0, none⟩) (K + M) c3 0 0 Tryd.underlying24
  have hbw := hb3.trans ((below1' w3 (.cells #[.int .i64 (K : Int), .int .i64 (M : Int)] 38)).mono hb3.size)
  have hk02 := (hbw.cell (p := ⟨w1.heap.size, 0, none⟩) (block_lt hk0)).trans hk0
  have hk12 := (hbw.cell (p := ⟨w1.heap.size, 1, none⟩) (block_lt hk1)).trans hk1
  have hG1 := hGw.below hbw
  have hG2 := hG3.below (below1' w3 (.cells #[.int .i64 (K : Int), .int .i64 (M : Int)] 38))
  have hB2 := hBw.trans (hbw.mono hBw.size)
  clear HMD2 hGw hBw hbw hG3 hb3 hk0 hk1
  generalize mulM K (genM K) (sqM lb n) = Q2 at *
  go_wp2_with fail
  generalize w3.alloc (.cells #[.int .i64 (K : Int), .int .i64 (M : Int)] 38) = w4 at *
  refine (texts_calls (n := K + M) (c := c1) hG1.at (hG1.texts (by omega)) (by simp) (by simp; omega)).mono ?_
  rintro e w5 ⟨A5, c5, x5, rfl, hT5, hb5⟩
  rw [length_rowsL]
  obtain ⟨g5, b5, p5, rfl, rfl, hW5⟩ := hT5.toW (by omega) (by omega)
  have hB5 := hB2.trans (hb5.mono hB2.size)
  have hk05 := (hb5.cell (p := ⟨w1.heap.size, 0, none⟩) (block_lt hk02)).trans hk02
  have hk15 := (hb5.cell (p := ⟨w1.heap.size, 1, none⟩) (block_lt hk12)).trans hk12
  have hlt1 := block_lt hk02
  have hG25 := hG2.below hb5
  have hlt3 : ∀ i, i < K + M → blk3 i < w4.heap.size := fun i hi => (hG2.row i hi).lt
  have hg3lt : g3 < w4.heap.size := (hG2.own.lt g3 rfl).2
  have hle5 := own_le hW5.own
  have hz4 := hb5.size
  clear hT5 hG1 hG2 hb5 hk02 hk12 heq heq3
  go_wp2_with fail
  go_loopw [46] (fun s wr => ∃ i : Nat, i ≤ K + M ∧ s = .int .i64 ((i : Nat) : Int) ∧ OwnW wr w4.heap.size g5 c5 b5 p5 (K + M) n (addTo i 0 Q1 Q2) ∧ Below w4.heap.size w5 wr) (fun s _ => K + M - (intOf s).toNat)
  case atStart => exact ⟨0, by omega, rfl, by rw [addTo_zero]; exact hW5, Below.refl _ _⟩
  case round =>
    obtain ⟨i, hi, rfl, hO, hb⟩ := hrel
    rename World => w6
    clear hW5
    by_cases hin : i < K + M
    · have hii : (i : Int) < (K : Int) + (M : Int) := by omega
      have hci := hO.cell hin
      go_wp2_with fail
      go_loopw [54] (fun s wr => ∃ j : Nat, j ≤ n ∧ s = .int .i64 ((j : Nat) : Int) ∧ OwnW wr w4.heap.size g5 c5 b5 p5 (K + M) n (addTo i j Q1 Q2) ∧ Below w4.heap.size w5 wr) (fun s _ => n - (intOf s).toNat)
      case atStart => exact ⟨0, by omega, rfl, hO, hb⟩
      case round =>
        obtain ⟨j, hj, rfl, hP, hbr⟩ := hrel
        rename World => w7
        clear hO hb hci
        by_cases hjn : j < n
        · have hji : (j : Int) < (n : Int) := by omega
          have hS := Lib.hid (addTo_step i j Q1 Q2)
          go_wp2_with fail
          have hPD : OwnW w7.drew w4.heap.size g5 c5 b5 p5 (K + M) n (addTo i j Q1 Q2) := hP.below (belowN 1 : Below w7.heap.size w7 (w7.drewN 1))
          have hBD : Below w4.heap.size w5 w7.drew := hbr.trans ((belowN 1 : Below w7.heap.size w7 (w7.drewN 1)).mono (Nat.le_trans hz4 hbr.size))
          have hh1 := hPD.cell hin
          obtain ⟨_, he, _, hh3, _, _⟩ := hG25.cell hin
          cases he
          have hy3 := (hG25.row i hin).cell (rowL_get (f := Q2 i) hjn)
          have hi3 := hlt3 i hin
          have hh2 := (hBD.cell (p := ⟨g3, i, none⟩) hg3lt).trans hh3
          have hy2 := (hBD.cell (p := ⟨blk3 i, j, none⟩) hi3).trans hy3
          have hx2 := hPD.byte hin hjn
          rw [addTo_at] at hx2
          refine wp_region_held_drew (S := fun w' => w'.cell? ⟨g5, i, none⟩ = some (.slice (some ⟨b5 i, 0, none⟩) n (p5 i)) ∧ w'.cell? ⟨g3, i, none⟩ = some (.slice (some ⟨blk3 i, 0, none⟩) n n) ∧ w'.cell? ⟨blk3 i, j, none⟩ = some (.int .u8 ((Q2 i j).toNat : Int))) (by kernel_rfl) ⟨hh1, hh2, hy2⟩ (fun hHeld => ?_)
          clear hP hbr hh3 hy3
          generalize w7.drew = WD at *
          have hfz := hPD.bfrozen hin j
          have hbi := (hPD.ltB hin).1
          have HX := Lib.hid (b8_xor (Q1 i j) (Q2 i j))
          refine wpAnyH_take (i := 0) (v := ?_) rfl (by kernel_rfl) (by kernel_rfl) (by kernel_rfl) (fun _ _ _ h => h) (Or.inl ⟨by rfl, ?_⟩) (by assumption) ?_; rotate_left; (intro w hSw; (try dsimp only at hSw); go_simp; (first | done | (with_reducible rfl))); (try simp only [List.getElem_toArray, List.getElem_cons_succ, List.getElem_cons_zero, Act.put, List.setIfInBounds_toArray, List.set_cons_zero, List.set_cons_succ])
          refine wpAnyH_take (i := 1) (v := ?_) rfl (by kernel_rfl) (by kernel_rfl) (by kernel_rfl) (fun _ _ _ h => h) (Or.inl ⟨by rfl, ?_⟩) (by assumption) ?_; rotate_left; (intro w hSw; (try dsimp only at hSw); go_simp; (first | done | (with_reducible rfl))); (try simp only [List.getElem_toArray, List.getElem_cons_succ, List.getElem_cons_zero, Act.put, List.setIfInBounds_toArray, List.set_cons_zero, List.set_cons_succ])
          refine wpAnyH_take (i := 4) (v := ?_) rfl (by kernel_rfl) (by kernel_rfl) (by kernel_rfl) (fun _ _ _ h => h) (Or.inl ⟨by rfl, ?_⟩) (by assumption) ?_; rotate_left; (intro w hSw; (try dsimp only at hSw); go_simp; (first | done | (with_reducible rfl))); (try simp only [List.getElem_toArray, List.getElem_cons_succ, List.getElem_cons_zero, Act.put, List.setIfInBounds_toArray, List.set_cons_zero, List.set_cons_succ])
          refine wpAnyH_take (i := 7) (v := ?_) rfl (by kernel_rfl) (by kernel_rfl) (by kernel_rfl) (fun _ _ _ h => h) (Or.inl ⟨by rfl, ?_⟩) (by assumption) ?_; rotate_left; (intro w hSw; (try dsimp only at hSw); go_simp; (first | done | (with_reducible rfl))); (try simp only [List.getElem_toArray, List.getElem_cons_succ, List.getElem_cons_zero, Act.put, List.setIfInBounds_toArray, List.set_cons_zero, List.set_cons_succ])
          refine wpAnyH_take (i := 8) (v := ?_) rfl (by kernel_rfl) (by kernel_rfl) (by kernel_rfl) (fun _ _ _ h => h) (Or.inl ⟨by rfl, ?_⟩) (by assumption) ?_; rotate_left; (intro w hSw; (try dsimp only at hSw); go_simp; (first | done | (with_reducible rfl))); (try simp only [List.getElem_toArray, List.getElem_cons_succ, List.getElem_cons_zero, Act.put, List.setIfInBounds_toArray, List.set_cons_zero, List.set_cons_succ])
          refine wpAnyH_take (i := 11) (v := ?_) rfl (by kernel_rfl) (by kernel_rfl) (by kernel_rfl) (fun _ _ _ h => h) (Or.inl ⟨by rfl, ?_⟩) (by assumption) ?_; rotate_left; (intro w hSw; (try dsimp only at hSw); go_simp; (first | done | (with_reducible rfl))); (try simp only [List.getElem_toArray, List.getElem_cons_succ, List.getElem_cons_zero, Act.put, List.setIfInBounds_toArray, List.set_cons_zero, List.set_cons_succ])
          refine wpAnyH_take (i := 2) (v := ?_) rfl (by kernel_rfl) (by kernel_rfl) (by kernel_rfl) (fun _ _ _ h => h) (Or.inl ⟨by rfl, ?_⟩) (by assumption) ?_; rotate_left; (intro w hSw; (try dsimp only at hSw); go_simp; (first | done | (with_reducible rfl))); (try simp only [List.getElem_toArray, List.getElem_cons_succ, List.getElem_cons_zero, Act.put, List.setIfInBounds_toArray, List.set_cons_zero, List.set_cons_succ])
          refine wpAnyH_take (i := 3) (v := ?_) rfl (by kernel_rfl) (by kernel_rfl) (by kernel_rfl) (fun _ _ _ h => h) (Or.inl ⟨by rfl, ?_⟩) (by assumption) ?_; rotate_left; (intro w hSw; (try dsimp only at hSw); go_simp; (first | done | (with_reducible rfl))); (try simp only [List.getElem_toArray, List.getElem_cons_succ, List.getElem_cons_zero, Act.put, List.setIfInBounds_toArray, List.set_cons_zero, List.set_cons_succ])
          refine wpAnyH_take (i := 5) (v := ?_) rfl (by kernel_rfl) (by kernel_rfl) (by kernel_rfl) (fun _ _ _ h => h) (Or.inl ⟨by rfl, ?_⟩) (by assumption) ?_; rotate_left; (intro w hSw; (try dsimp only at hSw); go_simp; (first | done | (with_reducible rfl))); (try simp only [List.getElem_toArray, List.getElem_cons_succ, List.getElem_cons_zero, Act.put, List.setIfInBounds_toArray, List.set_cons_zero, List.set_cons_succ])
          refine wpAnyH_take (i := 9) (v := ?_) rfl (by kernel_rfl) (by kernel_rfl) (by kernel_rfl) (fun _ _ _ h => h) (Or.inl ⟨by rfl, ?_⟩) (by assumption) ?_; rotate_left; (intro w hSw; (try dsimp only at hSw); go_simp; (first | done | (with_reducible rfl))); (try simp only [List.getElem_toArray, List.getElem_cons_succ, List.getElem_cons_zero, Act.put, List.setIfInBounds_toArray, List.set_cons_zero, List.set_cons_succ])
          refine wpAnyH_take (i := 10) (v := ?_) rfl (by kernel_rfl) (by kernel_rfl) (by kernel_rfl) (fun _ _ _ h => h) (Or.inl ⟨by rfl, ?_⟩) (by assumption) ?_; rotate_left; (intro w hSw; (try dsimp only at hSw); go_simp; (first | done | (with_reducible rfl))); (try simp only [List.getElem_toArray, List.getElem_cons_succ, List.getElem_cons_zero, Act.put, List.setIfInBounds_toArray, List.set_cons_zero, List.set_cons_succ])
          refine wpAnyH_take (i := 12) (v := ?_) rfl (by kernel_rfl) (by kernel_rfl) (by kernel_rfl) (fun _ _ _ h => h) (Or.inl ⟨by rfl, ?_⟩) (by assumption) ?_; rotate_left; (intro w hSw; (try dsimp only at hSw); go_simp; (first | done | (with_reducible rfl))); (try simp only [List.getElem_toArray, List.getElem_cons_succ, List.getElem_cons_zero, Act.put, List.setIfInBounds_toArray, List.set_cons_zero, List.set_cons_succ])
          refine wpAnyH_take (i := 13) (v := ?_) rfl (by kernel_rfl) (by kernel_rfl) (by kernel_rfl) (fun _ _ _ h => h) (Or.inl ⟨by rfl, ?_⟩) (by assumption) ?_; rotate_left; (intro w hSw; (try dsimp only at hSw); go_simp; (first | done | (with_reducible rfl))); (try simp only [List.getElem_toArray, List.getElem_cons_succ, List.getElem_cons_zero, Act.put, List.setIfInBounds_toArray, List.set_cons_zero, List.set_cons_succ])
          refine wpAnyH_ready (rs := [6]) (by kernel_rfl) (by simp) ?_; refine AllReadyH.cons rfl (fun K hK => ?_) AllReadyH.nil
          go_simp
          go_wp2_with fail
          refine hK.out _ _ ⟨hh1, hh2, hy2⟩ (fun hHeld => ?_)
          clear hK K
          (try simp only [List.getElem_toArray, List.getElem_cons_succ, List.getElem_cons_zero, Act.put, List.setIfInBounds_toArray, List.set_cons_zero, List.set_cons_succ])
          refine wpAnyH_take (i := 14) (v := ?_) rfl (by kernel_rfl) (by kernel_rfl) (by kernel_rfl) (fun _ _ _ h => h) (Or.inl ⟨by rfl, ?_⟩) (by assumption) ?_; rotate_left; (intro w hSw; (try dsimp only at hSw); go_simp; (first | done | (with_reducible rfl))); (try simp only [List.getElem_toArray, List.getElem_cons_succ, List.getElem_cons_zero, Act.put, List.setIfInBounds_toArray, List.set_cons_zero, List.set_cons_succ])
          refine wpAnyH_take (i := 15) (v := ?_) rfl (by kernel_rfl) (by kernel_rfl) (by kernel_rfl) (fun _ _ _ h => h) (Or.inl ⟨by rfl, ?_⟩) (by assumption) ?_; rotate_left; (intro w hSw; (try dsimp only at hSw); go_simp; (first | done | (with_reducible rfl))); (try simp only [List.getElem_toArray, List.getElem_cons_succ, List.getElem_cons_zero, Act.put, List.setIfInBounds_toArray, List.set_cons_zero, List.set_cons_succ])
          refine wpAnyH_ready (rs := [16]) (by kernel_rfl) (by simp) ?_; refine AllReadyH.cons rfl (fun K hK => ?_) AllReadyH.nil
          go_simp
          go_wp2_with fail
          rw [HX.out]
          rw [show Value.int .u8 ((Q1 i j ^^^ Q2 i j).toNat : Int) = bv (Q1 i j ^^^ Q2 i j) from rfl]
          have hgs := grown_set WD (b5 i) j (bv (Q1 i j ^^^ Q2 i j))
          refine hK.out _ _ ⟨hgs.cell hh1 (by simpa using Ne.symm (hPD.ne hin)), hgs.cell hh2 (by simp; omega), hgs.cell hy2 (by simp; omega)⟩ (fun hHeld => ?_)
          clear hK K
          (try simp only [List.getElem_toArray, List.getElem_cons_succ, List.getElem_cons_zero, Act.put, List.setIfInBounds_toArray, List.set_cons_zero, List.set_cons_succ])
          refine wpAnyH_done (by kernel_rfl) ?_ _
          go_wp2_with fail
          have hP2 := hPD.put hin j (Q1 i j ^^^ Q2 i j)
          rw [hS.out] at hP2
          exact ⟨⟨j + 1, by omega, by go_num, hP2, hBD.setCell hbi _⟩, by simp [intOf]; omega⟩
        · obtain rfl : n = j := by omega
          have hN := hP.congr (addTo_next i n n Q1 Q2 (K + M))
          go_wp2_with fail
          exact ⟨⟨i + 1, by omega, by go_num, hN, hbr⟩, by simp [intOf]; omega⟩
    · have hKM : i = K + M := by omega
      rw [hKM] at hO
      have hS6 := hO.congr (addTo_end (K + M) n Q1 Q2)
      have hk06 := (hb.cell (p := ⟨w1.heap.size, 0, none⟩) hlt1).trans hk05
      have hk16 := (hb.cell (p := ⟨w1.heap.size, 1, none⟩) hlt1).trans hk15
      have hB6 := hB5.trans (hb.mono hB2.size)
      have hid := hKM
      clear hO hb hk05 hk15 hB5 hG25 hKM
      generalize addM Q1 Q2 = Z at *
      go_wp2_with fail
      have hk0D : w6.drew.cell? ⟨w1.heap.size, 0, none⟩ = some (.int .i64 (K : Int)) := hk06
      have hk1D : w6.drew.cell? ⟨w1.heap.size, 1, none⟩ = some (.int .i64 (M : Int)) := hk16
      have hBD : Below w.heap.size w w6.drew := hB6.drew
      have hSD : OwnW w6.drew w4.heap.size g5 c5 b5 p5 (K + M) n Z := hS6.below (belowN 1 : Below w6.heap.size w6 (w6.drewN 1))
      refine wp_region_held_drew (S := fun w' => w'.cell? ⟨w1.heap.size, 0, none⟩ = some (.int .i64 (K : Int)) ∧ w'.cell? ⟨w1.heap.size, 1, none⟩ = some (.int .i64 (M : Int))) (by kernel_rfl) ⟨hk0D, hk1D⟩ (fun hHeld => ?_)
      generalize w6.drew = WD at *
      clear hk06 hk16 hB6 hS6
      have hKc : (K : Int) ≤ (c5 : Int) := by omega
      have hcut : ∀ w, (Instr.sliceAt 24 (.slice (some ⟨g5, 0, none⟩) (K + M) c5) none (some (.int .i64 (K : Int))) none).run Tryd.prog w = .ok (.slice (some ⟨g5, 0, none⟩) K c5) w := fun w =>
        cut_heads 0 K (.inl ⟨rfl, rfl⟩) (.inr rfl) (by omega) (by omega) (cutA_zero (by omega)) (by omega) (by omega) w
      refine wpAnyH_take (i := 1) (v := ?_) rfl (by kernel_rfl) (by kernel_rfl) (by kernel_rfl) (fun _ _ _ h => h) (Or.inl ⟨by rfl, ?_⟩) (by assumption) ?_; rotate_left; (intro w hSw; (try dsimp only at hSw); go_simp; (first | done | (with_reducible rfl))); (try simp only [List.getElem_toArray, List.getElem_cons_succ, List.getElem_cons_zero, Act.put, List.setIfInBounds_toArray, List.set_cons_zero, List.set_cons_succ])
      refine wpAnyH_take (i := 2) (v := ?_) rfl (by kernel_rfl) (by kernel_rfl) (by kernel_rfl) (fun _ _ _ h => h) (Or.inl ⟨by rfl, ?_⟩) (by assumption) ?_; rotate_left; (intro w hSw; (try dsimp only at hSw); go_simp; (first | done | (with_reducible rfl))); (try simp only [List.getElem_toArray, List.getElem_cons_succ, List.getElem_cons_zero, Act.put, List.setIfInBounds_toArray, List.set_cons_zero, List.set_cons_succ])
      refine wpAnyH_take (i := 0) (v := ?_) rfl (by kernel_rfl) (by kernel_rfl) (by kernel_rfl) (fun _ _ _ h => h) (Or.inl ⟨by rfl, ?_⟩) (by assumption) ?_; rotate_left; (intro w hSw; (try dsimp only at hSw); go_simp; (first | done | (with_reducible rfl))); (try simp only [List.getElem_toArray, List.getElem_cons_succ, List.getElem_cons_zero, Act.put, List.setIfInBounds_toArray, List.set_cons_zero, List.set_cons_succ])
      refine wpAnyH_take (i := 3) (v := ?_) rfl (by kernel_rfl) (by kernel_rfl) (by kernel_rfl) (fun _ _ _ h => h) (Or.inl ⟨by rfl, ?_⟩) (by assumption) ?_; rotate_left; (intro w hSw; (try dsimp only at hSw); go_simp; (first | done | (with_reducible rfl))); (try simp only [List.getElem_toArray, List.getElem_cons_succ, List.getElem_cons_zero, Act.put, List.setIfInBounds_toArray, List.set_cons_zero, List.set_cons_succ])
      refine wpAnyH_take (i := 4) (v := ?_) rfl (by kernel_rfl) (by kernel_rfl) (by kernel_rfl) (fun _ _ _ h => h) (Or.inl ⟨by rfl, ?_⟩) (by assumption) ?_; rotate_left; (intro w hSw; (try dsimp only at hSw); go_simp; (first | done | (with_reducible rfl))); (try simp only [List.getElem_toArray, List.getElem_cons_succ, List.getElem_cons_zero, Act.put, List.setIfInBounds_toArray, List.set_cons_zero, List.set_cons_succ])
      refine wpAnyH_ready (rs := [5]) (by kernel_rfl) (by simp) ?_; refine AllReadyH.cons rfl (fun KK hKK => ?_) AllReadyH.nil
      go_simp
      have hZ := hSD.mat (by omega)
      refine (encode_mat (cS := c5) (hZ.take (Nat.le_add_right K M)) hK1 (by omega) (by omega) (by omega) (FoldAt.below hF hBD)).mono ?_
      rintro e w8 ⟨A8, c8, rfl, hX, hb8⟩
      go_wp2_with fail
      have hk08 := (hb8.cell (p := ⟨w1.heap.size, 0, none⟩) (block_lt hk0D)).trans hk0D
      have hk18 := (hb8.cell (p := ⟨w1.heap.size, 1, none⟩) (block_lt hk1D)).trans hk1D
      refine hKK.out _ _ ⟨hk08, hk18⟩ (fun hHeld => ?_)
      clear hKK KK
      (try simp only [List.getElem_toArray, List.getElem_cons_succ, List.getElem_cons_zero, Act.put, List.setIfInBounds_toArray, List.set_cons_zero, List.set_cons_succ])
      refine wpAnyH_take (i := 6) (v := ?_) rfl (by kernel_rfl) (by kernel_rfl) (by kernel_rfl) (fun _ _ _ h => h) (Or.inl ⟨by rfl, ?_⟩) (by assumption) ?_; rotate_left; (intro w hSw; (try dsimp only at hSw); go_simp; (first | done | (with_reducible rfl))); (try simp only [List.getElem_toArray, List.getElem_cons_succ, List.getElem_cons_zero, Act.put, List.setIfInBounds_toArray, List.set_cons_zero, List.set_cons_succ])
      refine wpAnyH_take (i := 7) (v := ?_) rfl (by kernel_rfl) (by kernel_rfl) (by kernel_rfl) (fun _ _ _ h => h) (Or.inl ⟨by rfl, ?_⟩) (by assumption) ?_; rotate_left; (intro w hSw; (try dsimp only at hSw); go_simp; (first | done | (with_reducible rfl))); (try simp only [List.getElem_toArray, List.getElem_cons_succ, List.getElem_cons_zero, Act.put, List.setIfInBounds_toArray, List.set_cons_zero, List.set_cons_succ])
      refine wpAnyH_take (i := 8) (v := ?_) rfl (by kernel_rfl) (by kernel_rfl) (by kernel_rfl) (fun _ _ _ h => h) (Or.inl ⟨by rfl, ?_⟩) (by assumption) ?_; rotate_left; (intro w hSw; (try dsimp only at hSw); go_simp; (first | done | (with_reducible rfl))); (try simp only [List.getElem_toArray, List.getElem_cons_succ, List.getElem_cons_zero, Act.put, List.setIfInBounds_toArray, List.set_cons_zero, List.set_cons_succ])
      refine wpAnyH_take (i := 9) (v := ?_) rfl (by kernel_rfl) (by kernel_rfl) (by kernel_rfl) (fun _ _ _ h => h) (Or.inl ⟨by rfl, ?_⟩) (by assumption) ?_; rotate_left; (intro w hSw; (try dsimp only at hSw); go_simp; (first | done | (with_reducible rfl))); (try simp only [List.getElem_toArray, List.getElem_cons_succ, List.getElem_cons_zero, Act.put, List.setIfInBounds_toArray, List.set_cons_zero, List.set_cons_succ])
      refine wpAnyH_take (i := 10) (v := ?_) rfl (by kernel_rfl) (by kernel_rfl) (by kernel_rfl) (fun _ _ _ h => h) (Or.inl ⟨by rfl, ?_⟩) (by assumption) ?_; rotate_left; (intro w hSw; (try dsimp only at hSw); go_simp; (first | done | (with_reducible rfl))); (try simp only [List.getElem_toArray, List.getElem_cons_succ, List.getElem_cons_zero, Act.put, List.setIfInBounds_toArray, List.set_cons_zero, List.set_cons_succ])
      refine wpAnyH_done (by kernel_rfl) ?_ _
      have hB8 := hBD.trans (hb8.mono hBD.size)
      have hZ8 := hZ.below hb8
      have HSM := Lib.hid (same_mat (a := c8) (b := c5) hX hZ8 HW.out (by omega))
      have HRT := Lib.hid (right_yes (cS := c5) hZ8 rfl hK1 (by omega) (by omega) (by omega) hle5 (FoldAt.below hF hB8) HW.out)
      clear hHeld hcut hX hZ8 hZ hSD hk0D hk1D hBD hb8
      go_wp2_with fail
      refine HSM.out.mono ?_
      rintro e w' ⟨rfl, rfl⟩
      go_wp2_with fail
      refine HRT.out.mono ?_
      rintro e w9 ⟨rfl, hb9⟩
      go_wp2_with fail
      go_ret
      exact ⟨rfl, hB8.trans (hb9.mono hB8.size)⟩

end Go.Proofs.YtibidlgikecelaaDoor
