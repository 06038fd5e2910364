/- Contract: the law ReedTurned. -/
import Derived.Test.YtibidlgikecelaaDoorR7
namespace Go.Proofs.YtibidlgikecelaaDoor
open Go.RowKit
set_option linter.unusedVariables false
set_option linter.unusedSimpArgs false

/-- One byte of one row turned. -/
def turnM (Q : Mx) (i j : Nat) (d : B8) : Mx := putR Q i (fun k => if k = j then Q i j ^^^ d else Q i k)
theorem turned_no {K M c : Nat} {Q : Mx} (hQ : EqM (K + M) c (mulM K (genM K) Q) Q) (hK : 1 ≤ K) (hM : 0 < M) (hKM : K + M ≤ 255) {i j : Nat} (hi : i < K + M) (hj : j < c) {d : B8} (hd : d ≠ 0#8) :
    ¬ EqM (K + M) c (mulM K (genM K) (turnM Q i j d)) (turnM Q i j d) := by
  intro h
  by_cases hiK : i < K
  · have h1 := h K j (by omega) hj
    have h2 := hQ K j (by omega) hj
    have hne : ¬ K = i := by omega
    have hR : turnM Q i j d K j = Q K j := by simp [turnM, putR, hne]
    have hL : mulM K (genM K) (turnM Q i j d) K j = mulM K (genM K) Q K j ^^^ gm (genM K K i) d := by
      unfold mulM
      rw [xs_congr (g := fun k => gm (genM K K k) (Q k j) ^^^ (if k = i then gm (genM K K i) d else 0#8)) (fun k hk => by
        by_cases hki : k = i
        · subst hki; simp [turnM, putR, gm_add_right]
        · simp [turnM, putR, hki])]
      rw [xs_add, xs_single (fun k => if k = i then gm (genM K K i) d else 0#8) hiK (fun k _ hk => by simp [hk])]
      simp
    rw [hL, hR, h2] at h1
    have h3 : gm (genM K K i) d = 0#8 := by
      have := congrArg (fun t => Q K j ^^^ t) h1
      simpa [← BitVec.xor_assoc] using this
    rcases gm_eq_zero h3 with h4 | h4
    · rw [genM_low (by omega)] at h4
      exact gi_ne (byte_ne (by omega) (by omega) (by omega)) h4
    · exact hd h4
  · have h1 := h i j hi hj
    have h2 := hQ i j hi hj
    have hR : turnM Q i j d i j = Q i j ^^^ d := by simp [turnM, putR]
    have hL : mulM K (genM K) (turnM Q i j d) i j = mulM K (genM K) Q i j := by
      unfold mulM
      refine xs_congr fun k hk => ?_
      have : ¬ k = i := by omega
      simp [turnM, putR, this]
    rw [hL, hR, h2] at h1
    apply hd
    have := congrArg (fun t => Q i j ^^^ t) h1
    simpa [← BitVec.xor_assoc] using this.symm

theorem place_tmod {n : Nat} (hn : 0 < n) (x : Int) : (IntKind.u64.wrap x).tmod (n : Int) = placeOf n x := by
  have h0 := wrap_u64_nonneg x
  rw [Int.tmod_eq_emod_of_nonneg h0, IntKind.wrap_u64]
  rfl

set_option maxHeartbeats 1000000 in
set_option maxRecDepth 100000 in
theorem reedTurned_calls {w : World} {A : Option Addr} {na ca : Nat} {lb : List B8} {x y z p q r : Int} (hA : At w A (bys lb)) (hna : na = lb.length) (hma : lb.length ≤ 140737488351232) (hF : FoldAt w) :
    Calls Tryd.prog 12 #[.int .i64 x, .int .i64 y, .int .i64 z, .slice A na ca, .int .i64 p, .int .i64 q, .int .i64 r] w (RetV w (.bool true)) := by
  obtain ⟨K, hK1, hK2, hKe⟩ := pick_add 1 x 12 (by decide) (by decide) (by decide)
  obtain ⟨M, hM2, hMe⟩ := pick_mod y 6 (by decide) (by decide)
  obtain ⟨n, hn1, hn2, hne⟩ := pick_add 1 z 10 (by decide) (by decide) (by decide)
  rw [Int.natCast_one] at hKe hne
  have HMD := Lib.hid (made_calls (w := w) (ca := ca) hA hna hma (Lib.hid hKe) (Lib.hid hMe) (Lib.hid hne) hK1 (by omega) (by omega) hn1 (by omega) hF)
  clear hKe hMe hne
  have hK12 : K ≤ 12 := by omega
  have hM6 : M < 6 := by omega
  have hn10 : n ≤ 10 := by omega
  clear hK2 hM2 hn2
  have HPI := place_wrap (n := K + M) (by omega) (by omega) p
  have hpi := placeOf_in (n := K + M) (by omega) p
  generalize placeOf (K + M) p = i0 at *
  obtain ⟨i, rfl⟩ := Int.eq_ofNat_of_zero_le hpi.1
  have hi : i < K + M := by omega
  rw [Int.natCast_add] at HPI
  replace HPI := Lib.hid HPI
  have HPJ := place_tmod (n := n) (by omega) q
  have hpj := placeOf_in (n := n) (by omega) q
  generalize placeOf n q = j0 at *
  obtain ⟨j, rfl⟩ := Int.eq_ofNat_of_zero_le hpj.1
  have hj : j < n := by omega
  replace HPJ := Lib.hid HPJ
  have HPD := place_tmod (n := 255) (by omega) r
  have hpd := placeOf_in (n := 255) (by omega) r
  generalize placeOf 255 r = d0 at *
  obtain ⟨d1, rfl⟩ := Int.eq_ofNat_of_zero_le hpd.1
  have hd1 : d1 < 255 := by omega
  replace HPD := Lib.hid (show (IntKind.u64.wrap r).tmod (255 : Int) = (d1 : Int) from HPD)
  have hdn : BitVec.ofNat 8 (1 + d1) ≠ 0#8 := ofNat8_ne (a := 1 + d1) (b := 0) (by omega) (by omega) (by omega)
  have hdv : IntKind.u8.wrap (1 + (d1 : Int)) = ((BitVec.ofNat 8 (1 + d1)).toNat : Int) := by
    rw [byte_nat (by omega), IntKind.wrap_u8]
    omega
  generalize BitVec.ofNat 8 (1 + d1) = d at *
  have HDV := Lib.hid hdv
  clear hpi hpj hpd hdv
  subst hna
  go_enter Tryd.func12, Tryd.ntmps12
  go_wp2_with fail
  refine HMD.out.mono ?_
  rintro e w1 ⟨A1, c1, blk, rfl, hG, HB⟩
  obtain ⟨g, rfl, hgB, hci, hbg, hfi⟩ := hG.cell hi
  have hle := hG.le
  have heq := fun (w : World) => Lib.run_eql_slice_nil (P := Tryd.prog) w 24 22 (some ⟨g, 0, none⟩) (K + M) c1 0 0 Tryd.underlying24
  have hnw : IntKind.u64.wrap (n : Int) = (n : Int) := by rw [IntKind.wrap_u64]; omega
  have hNw : IntKind.u64.wrap ((K : Int) + (M : Int)) = (K : Int) + (M : Int) := by rw [IntKind.wrap_u64]; omega
  have hn0 : n ≠ 0 := by omega
  have hN0 : ¬ ((K : Int) + (M : Int) = 0) := by omega
  have hbw := below1' w1 (.cells #[.int .i64 (K : Int), .int .i64 (M : Int)] 38)
  have hk0 : (w1.alloc (.cells #[.int .i64 (K : Int), .int .i64 (M : Int)] 38)).cell? ⟨w1.heap.size, 0, none⟩ = some (.int .i64 (K : Int)) := cell_of_row _ _ 0 _ _ (0, 0) (heap_alloc_new w1 _)
  have hk1 : (w1.alloc (.cells #[.int .i64 (K : Int), .int .i64 (M : Int)] 38)).cell? ⟨w1.heap.size, 1, none⟩ = some (.int .i64 (M : Int)) := cell_of_row _ _ 1 _ _ (0, 0) (heap_alloc_new w1 _)
  have hsz : (w1.alloc (.cells #[.int .i64 (K : Int), .int .i64 (M : Int)] 38)).heap.size = w1.heap.size + 1 := by simp
  have hGw := hG.below hbw
  have hBw := HB.trans (hbw.mono HB.size)
  have hbi := (hG.row i hi).lt
  clear HMD hG hci hfi
  go_wp2_with fail
  generalize w1.alloc (.cells #[.int .i64 (K : Int), .int .i64 (M : Int)] 38) = w2 at *
  have hQ : EqM (K + M) n (mulM K (genM K) (mulM K (genM K) (sqM lb n))) (mulM K (genM K) (sqM lb n)) := gen_again (sqM lb n)
  generalize mulM K (genM K) (sqM lb n) = Q at *
  refine (right_yes (hGw.mat (by omega)) rfl hK1 (by omega) (by omega) (by omega) hle (FoldAt.below hF hBw) hQ).mono ?_
  rintro e w3 ⟨rfl, hb3⟩
  have hG3 := hGw.below hb3
  have hB3 := hBw.trans (hb3.mono hBw.size)
  have hk03 := (hb3.cell (p := ⟨w1.heap.size, 0, none⟩) (block_lt hk0)).trans hk0
  have hk13 := (hb3.cell (p := ⟨w1.heap.size, 1, none⟩) (block_lt hk1)).trans hk1
  clear hGw hBw hbw hk0 hk1 hb3
  obtain ⟨_, he, _, hc3, _, _⟩ := hG3.cell hi
  cases he
  have hb3' := (hG3.row i hi).cell (rowL_get (f := Q i) hj)
  go_wp2_with fail
  have e1 := HPI.out
  rw [e1]
  clear e1 HPI heq
  have hcD : w3.drew.cell? ⟨g, i, none⟩ = some (.slice (some ⟨blk i, 0, none⟩) n n) := hc3
  have hyD : w3.drew.cell? ⟨blk i, j, none⟩ = some (.int .u8 ((Q i j).toNat : Int)) := hb3'
  have hk0D : w3.drew.cell? ⟨w1.heap.size, 0, none⟩ = some (.int .i64 (K : Int)) := hk03
  have hk1D : w3.drew.cell? ⟨w1.heap.size, 1, none⟩ = some (.int .i64 (M : Int)) := hk13
  have hGD : OwnG w3.drew w.heap.size (some ⟨g, 0, none⟩) c1 blk (K + M) n Q := hG3.below (belowN 1 : Below w3.heap.size w3 (w3.drewN 1))
  have hBD : Below w.heap.size w w3.drew := hB3.drew
  refine wp_region_held_drew (S := fun w' => w'.cell? ⟨g, i, none⟩ = some (.slice (some ⟨blk i, 0, none⟩) n n)) (by kernel_rfl) hcD (fun hHeld => ?_)
  generalize w3.drew = WD at *
  clear hc3 hb3' hk03 hk13 hG3 hB3
  have hiKM : (i : Int) < (K : Int) + (M : Int) := by omega
  have hjn : (j : Int) < (n : Int) := by omega
  have hrow := hGD.row i hi
  have hfz := hrow.frozen j
  have hgi := hbg i hi
  have hbw1 : w1.heap.size ≠ blk i := by omega
  have hXY := b8_xor (Q i j) d
  have u1 := HPJ.out
  have u2 : IntKind.u64.wrap (j : Int) = (j : Int) := by rw [IntKind.wrap_u64]; omega
  have u3 : IntKind.i64.wrap (j : Int) = (j : Int) := IntWalk.i64_in _ (by omega)
  have u4 := HPD.out
  have u5 : IntKind.u64.wrap (d1 : Int) = (d1 : Int) := by rw [IntKind.wrap_u64]; omega
  have u6 : IntKind.u64.wrap (1 + (d1 : Int)) = 1 + (d1 : Int) := by rw [IntKind.wrap_u64]; omega
  have u7 := HDV.out
  refine wpAnyH_take (i := 0) (v := ?_) rfl (by kernel_rfl) (by kernel_rfl) (by kernel_rfl) (fun _ _ _ h => h) (Or.inl ⟨by rfl, ?_⟩) (by assumption) ?_; rotate_left; (intro w hSw; (try dsimp only at hSw); go_simp; (first | done | (with_reducible rfl))); (try simp only [List.getElem_toArray, List.getElem_cons_succ, List.getElem_cons_zero, Act.put, List.setIfInBounds_toArray, List.set_cons_zero, List.set_cons_succ])
  refine wpAnyH_take (i := 1) (v := ?_) rfl (by kernel_rfl) (by kernel_rfl) (by kernel_rfl) (fun _ _ _ h => h) (Or.inl ⟨by rfl, ?_⟩) (by assumption) ?_; rotate_left; (intro w hSw; (try dsimp only at hSw); go_simp; (first | done | (with_reducible rfl))); (try simp only [List.getElem_toArray, List.getElem_cons_succ, List.getElem_cons_zero, Act.put, List.setIfInBounds_toArray, List.set_cons_zero, List.set_cons_succ])
  refine wpAnyH_take (i := 4) (v := ?_) rfl (by kernel_rfl) (by kernel_rfl) (by kernel_rfl) (fun _ _ _ h => h) (Or.inl ⟨by rfl, ?_⟩) (by assumption) ?_; rotate_left; (intro w hSw; (try dsimp only at hSw); go_simp; (first | done | (with_reducible rfl))); (try simp only [List.getElem_toArray, List.getElem_cons_succ, List.getElem_cons_zero, Act.put, List.setIfInBounds_toArray, List.set_cons_zero, List.set_cons_succ])
  refine wpAnyH_take (i := 6) (v := ?_) rfl (by kernel_rfl) (by kernel_rfl) (by kernel_rfl) (fun _ _ _ h => h) (Or.inl ⟨by rfl, ?_⟩) (by assumption) ?_; rotate_left; (intro w hSw; (try dsimp only at hSw); go_simp; (first | done | (with_reducible rfl))); (try simp only [List.getElem_toArray, List.getElem_cons_succ, List.getElem_cons_zero, Act.put, List.setIfInBounds_toArray, List.set_cons_zero, List.set_cons_succ])
  refine wpAnyH_take (i := 7) (v := ?_) rfl (by kernel_rfl) (by kernel_rfl) (by kernel_rfl) (fun _ _ _ h => h) (Or.inl ⟨by rfl, ?_⟩) (by assumption) ?_; rotate_left; (intro w hSw; (try dsimp only at hSw); go_simp; (first | done | (with_reducible rfl))); (try simp only [List.getElem_toArray, List.getElem_cons_succ, List.getElem_cons_zero, Act.put, List.setIfInBounds_toArray, List.set_cons_zero, List.set_cons_succ])
  refine wpAnyH_take (i := 16) (v := ?_) rfl (by kernel_rfl) (by kernel_rfl) (by kernel_rfl) (fun _ _ _ h => h) (Or.inl ⟨by rfl, ?_⟩) (by assumption) ?_; rotate_left; (intro w hSw; (try dsimp only at hSw); go_simp; (first | done | (with_reducible rfl))); (try simp only [List.getElem_toArray, List.getElem_cons_succ, List.getElem_cons_zero, Act.put, List.setIfInBounds_toArray, List.set_cons_zero, List.set_cons_succ])
  refine wpAnyH_take (i := 2) (v := ?_) rfl (by kernel_rfl) (by kernel_rfl) (by kernel_rfl) (fun _ _ _ h => h) (Or.inl ⟨by rfl, ?_⟩) (by assumption) ?_; rotate_left; (intro w hSw; (try dsimp only at hSw); go_simp; (first | done | (with_reducible rfl))); (try simp only [List.getElem_toArray, List.getElem_cons_succ, List.getElem_cons_zero, Act.put, List.setIfInBounds_toArray, List.set_cons_zero, List.set_cons_succ])
  refine wpAnyH_take (i := 3) (v := ?_) rfl (by kernel_rfl) (by kernel_rfl) (by kernel_rfl) (fun _ _ _ h => h) (Or.inl ⟨by rfl, ?_⟩) (by assumption) ?_; rotate_left; (intro w hSw; (try dsimp only at hSw); go_simp; (first | done | (with_reducible rfl))); (try simp only [List.getElem_toArray, List.getElem_cons_succ, List.getElem_cons_zero, Act.put, List.setIfInBounds_toArray, List.set_cons_zero, List.set_cons_succ])
  refine wpAnyH_take (i := 5) (v := ?_) rfl (by kernel_rfl) (by kernel_rfl) (by kernel_rfl) (fun _ _ _ h => h) (Or.inl ⟨by rfl, ?_⟩) (by assumption) ?_; rotate_left; (intro w hSw; (try dsimp only at hSw); go_simp; (first | done | (with_reducible rfl))); (try simp only [List.getElem_toArray, List.getElem_cons_succ, List.getElem_cons_zero, Act.put, List.setIfInBounds_toArray, List.set_cons_zero, List.set_cons_succ])
  refine wpAnyH_take (i := 8) (v := ?_) rfl (by kernel_rfl) (by kernel_rfl) (by kernel_rfl) (fun _ _ _ h => h) (Or.inl ⟨by rfl, ?_⟩) (by assumption) ?_; rotate_left; (intro w hSw; (try dsimp only at hSw); go_simp; (first | done | (with_reducible rfl))); (try simp only [List.getElem_toArray, List.getElem_cons_succ, List.getElem_cons_zero, Act.put, List.setIfInBounds_toArray, List.set_cons_zero, List.set_cons_succ])
  refine wpAnyH_take (i := 9) (v := ?_) rfl (by kernel_rfl) (by kernel_rfl) (by kernel_rfl) (fun _ _ _ h => h) (Or.inl ⟨by rfl, ?_⟩) (by assumption) ?_; rotate_left; (intro w hSw; (try dsimp only at hSw); go_simp; (first | done | (with_reducible rfl))); (try simp only [List.getElem_toArray, List.getElem_cons_succ, List.getElem_cons_zero, Act.put, List.setIfInBounds_toArray, List.set_cons_zero, List.set_cons_succ])
  refine wpAnyH_take (i := 10) (v := ?_) rfl (by kernel_rfl) (by kernel_rfl) (by kernel_rfl) (fun _ _ _ h => h) (Or.inl ⟨by rfl, ?_⟩) (by assumption) ?_; rotate_left; (intro w hSw; (try dsimp only at hSw); go_simp; (first | done | (with_reducible rfl))); (try simp only [List.getElem_toArray, List.getElem_cons_succ, List.getElem_cons_zero, Act.put, List.setIfInBounds_toArray, List.set_cons_zero, List.set_cons_succ])
  refine wpAnyH_take (i := 11) (v := ?_) rfl (by kernel_rfl) (by kernel_rfl) (by kernel_rfl) (fun _ _ _ h => h) (Or.inl ⟨by rfl, ?_⟩) (by assumption) ?_; rotate_left; (intro w hSw; (try dsimp only at hSw); go_simp; (first | done | (with_reducible rfl))); (try simp only [List.getElem_toArray, List.getElem_cons_succ, List.getElem_cons_zero, Act.put, List.setIfInBounds_toArray, List.set_cons_zero, List.set_cons_succ])
  refine wpAnyH_take (i := 12) (v := ?_) rfl (by kernel_rfl) (by kernel_rfl) (by kernel_rfl) (fun _ _ _ h => h) (Or.inl ⟨by rfl, ?_⟩) (by assumption) ?_; rotate_left; (intro w hSw; (try dsimp only at hSw); go_simp; (first | done | (with_reducible rfl))); (try simp only [List.getElem_toArray, List.getElem_cons_succ, List.getElem_cons_zero, Act.put, List.setIfInBounds_toArray, List.set_cons_zero, List.set_cons_succ])
  refine wpAnyH_take (i := 13) (v := ?_) rfl (by kernel_rfl) (by kernel_rfl) (by kernel_rfl) (fun _ _ _ h => h) (Or.inl ⟨by rfl, ?_⟩) (by assumption) ?_; rotate_left; (intro w hSw; (try dsimp only at hSw); go_simp; (first | done | (with_reducible rfl))); (try simp only [List.getElem_toArray, List.getElem_cons_succ, List.getElem_cons_zero, Act.put, List.setIfInBounds_toArray, List.set_cons_zero, List.set_cons_succ])
  refine wpAnyH_take (i := 14) (v := ?_) rfl (by kernel_rfl) (by kernel_rfl) (by kernel_rfl) (fun _ _ _ h => h) (Or.inl ⟨by rfl, ?_⟩) (by assumption) ?_; rotate_left; (intro w hSw; (try dsimp only at hSw); go_simp; (first | done | (with_reducible rfl))); (try simp only [List.getElem_toArray, List.getElem_cons_succ, List.getElem_cons_zero, Act.put, List.setIfInBounds_toArray, List.set_cons_zero, List.set_cons_succ])
  refine wpAnyH_take (i := 17) (v := ?_) rfl (by kernel_rfl) (by kernel_rfl) (by kernel_rfl) (fun _ _ _ h => h) (Or.inl ⟨by rfl, ?_⟩) (by assumption) ?_; rotate_left; (intro w hSw; (try dsimp only at hSw); go_simp; (first | done | (with_reducible rfl))); (try simp only [List.getElem_toArray, List.getElem_cons_succ, List.getElem_cons_zero, Act.put, List.setIfInBounds_toArray, List.set_cons_zero, List.set_cons_succ])
  refine wpAnyH_take (i := 18) (v := ?_) rfl (by kernel_rfl) (by kernel_rfl) (by kernel_rfl) (fun _ _ _ h => h) (Or.inl ⟨by rfl, ?_⟩) (by assumption) ?_; rotate_left; (intro w hSw; (try dsimp only at hSw); go_simp; (first | done | (with_reducible rfl))); (try simp only [List.getElem_toArray, List.getElem_cons_succ, List.getElem_cons_zero, Act.put, List.setIfInBounds_toArray, List.set_cons_zero, List.set_cons_succ])
  refine wpAnyH_take (i := 19) (v := ?_) rfl (by kernel_rfl) (by kernel_rfl) (by kernel_rfl) (fun _ _ _ h => h) (Or.inl ⟨by rfl, ?_⟩) (by assumption) ?_; rotate_left; (intro w hSw; (try dsimp only at hSw); go_simp; (first | done | (with_reducible rfl))); (try simp only [List.getElem_toArray, List.getElem_cons_succ, List.getElem_cons_zero, Act.put, List.setIfInBounds_toArray, List.set_cons_zero, List.set_cons_succ])
  refine wpAnyH_take (i := 20) (v := ?_) rfl (by kernel_rfl) (by kernel_rfl) (by kernel_rfl) (fun _ _ _ h => h) (Or.inl ⟨by rfl, ?_⟩) (by assumption) ?_; rotate_left; (intro w hSw; (try dsimp only at hSw); go_simp; (first | done | (with_reducible rfl))); (try simp only [List.getElem_toArray, List.getElem_cons_succ, List.getElem_cons_zero, Act.put, List.setIfInBounds_toArray, List.set_cons_zero, List.set_cons_succ])
  refine wpAnyH_ready (rs := [15]) (by kernel_rfl) (by simp) ?_; refine AllReadyH.cons rfl (fun KK hKK => ?_) AllReadyH.nil
  go_simp
  go_wp2_with fail
  refine hKK.out _ _ hcD (fun hHeld => ?_)
  clear hKK KK
  (try simp only [List.getElem_toArray, List.getElem_cons_succ, List.getElem_cons_zero, Act.put, List.setIfInBounds_toArray, List.set_cons_zero, List.set_cons_succ])
  refine wpAnyH_take (i := 21) (v := ?_) rfl (by kernel_rfl) (by kernel_rfl) (by kernel_rfl) (fun _ _ _ h => h) (Or.inl ⟨by rfl, ?_⟩) (by assumption) ?_; rotate_left; (intro w hSw; (try dsimp only at hSw); go_simp; (first | done | (with_reducible rfl))); (try simp only [List.getElem_toArray, List.getElem_cons_succ, List.getElem_cons_zero, Act.put, List.setIfInBounds_toArray, List.set_cons_zero, List.set_cons_succ])
  refine wpAnyH_take (i := 22) (v := ?_) rfl (by kernel_rfl) (by kernel_rfl) (by kernel_rfl) (fun _ _ _ h => h) (Or.inl ⟨by rfl, ?_⟩) (by assumption) ?_; rotate_left; (intro w hSw; (try dsimp only at hSw); go_simp; (first | done | (with_reducible rfl))); (try simp only [List.getElem_toArray, List.getElem_cons_succ, List.getElem_cons_zero, Act.put, List.setIfInBounds_toArray, List.set_cons_zero, List.set_cons_succ])
  clear u1 u2 u3 u4 u5 u6 u7
  refine wpAnyH_ready (rs := [23]) (by kernel_rfl) (by simp) ?_; refine AllReadyH.cons rfl (fun KK hKK => ?_) AllReadyH.nil
  go_simp
  go_wp2_with fail
  have hgs := grown_set WD (blk i) j (bv (Q i j ^^^ d))
  refine hKK.out _ _ (hgs.cell hcD (by simpa using Ne.symm hgi)) (fun hHeld => ?_)
  clear hKK KK
  (try simp only [List.getElem_toArray, List.getElem_cons_succ, List.getElem_cons_zero, Act.put, List.setIfInBounds_toArray, List.set_cons_zero, List.set_cons_succ])
  refine wpAnyH_done (by kernel_rfl) ?_ _
  have hst := hrow.put j (Q i j ^^^ d)
  have hbi2 := hGD.geB i hi
  have hG5 : OwnG _ w.heap.size (some ⟨g, 0, none⟩) c1 blk (K + M) n (turnM Q i j d) := hGD.setRow hi hgs hst
  have hB5 := hBD.trans (below_of_grown hgs hBD.size (by intro t ht; cases ht; exact hbi2))
  have hk05 := hgs.cell hk0D (by simpa using hbw1)
  have hk15 := hgs.cell hk1D (by simpa using hbw1)
  have hFT : ∃ res : Bool, (res == ((M : Int) == 0)) = true ∧ ∀ (W : World), MatAt W (some ⟨g, 0, none⟩) (K + M) n (turnM Q i j d) → FoldAt W →
      Calls Tryd.prog 45 #[.agg #[.int .i64 (K : Int), .int .i64 (M : Int)], .slice (some ⟨g, 0, none⟩) (K + M) c1] W (RetV W (.bool res)) := by
    by_cases hM0 : M = 0
    · refine ⟨true, by simp [hM0], fun W hm hf => right_yes hm rfl hK1 (by omega) (by omega) (by omega) hle hf ?_⟩
      intro a b ha hb
      exact gen_top _ a b (by omega) hb
    · refine ⟨false, by simp [hM0], fun W hm hf => right_no hm rfl hK1 (by omega) (by omega) (by omega) hle hf ?_⟩
      exact turned_no hQ hK1 (by omega) (by omega) hi hj hdn
  obtain ⟨res, hres, HRT⟩ := hFT
  have HRT := Lib.hid HRT
  rw [show bv (Q i j ^^^ d) = Value.int .u8 (((Q i j).toNat ^^^ d.toNat : Nat) : Int) from bv_xor _ _] at hG5 hB5 hk05 hk15
  generalize WD.setCell ⟨blk i, j, none⟩ (.int .u8 (((Q i j).toNat ^^^ d.toNat : Nat) : Int)) = w5 at *
  clear hgs hst hHeld hXY hrow hfz hcD hyD hk0D hk1D hGD hBD hQ hnw hNw
  go_wp2_with fail
  have hk0E : w5.drew.cell? ⟨w1.heap.size, 0, none⟩ = some (.int .i64 (K : Int)) := hk05
  have hk1E : w5.drew.cell? ⟨w1.heap.size, 1, none⟩ = some (.int .i64 (M : Int)) := hk15
  have hGE : OwnG w5.drew w.heap.size (some ⟨g, 0, none⟩) c1 blk (K + M) n (turnM Q i j d) := hG5.below (belowN 1 : Below w5.heap.size w5 (w5.drewN 1))
  have hBE : Below w.heap.size w w5.drew := hB5.drew
  refine wp_region_held_drew (S := fun w' => w'.cell? ⟨w1.heap.size, 0, none⟩ = some (.int .i64 (K : Int)) ∧ w'.cell? ⟨w1.heap.size, 1, none⟩ = some (.int .i64 (M : Int))) (by kernel_rfl) ⟨hk0E, hk1E⟩ (fun hHeld => ?_)
  generalize w5.drew = WE at *
  clear hk05 hk15 hG5 hB5
  refine wpAnyH_take (i := 1) (v := ?_) rfl (by kernel_rfl) (by kernel_rfl) (by kernel_rfl) (fun _ _ _ h => h) (Or.inl ⟨by rfl, ?_⟩) (by assumption) ?_; rotate_left; (intro w hSw; (try dsimp only at hSw); go_simp; (first | done | (with_reducible rfl))); (try simp only [List.getElem_toArray, List.getElem_cons_succ, List.getElem_cons_zero, Act.put, List.setIfInBounds_toArray, List.set_cons_zero, List.set_cons_succ])
  refine wpAnyH_take (i := 3) (v := ?_) rfl (by kernel_rfl) (by kernel_rfl) (by kernel_rfl) (fun _ _ _ h => h) (Or.inl ⟨by rfl, ?_⟩) (by assumption) ?_; rotate_left; (intro w hSw; (try dsimp only at hSw); go_simp; (first | done | (with_reducible rfl))); (try simp only [List.getElem_toArray, List.getElem_cons_succ, List.getElem_cons_zero, Act.put, List.setIfInBounds_toArray, List.set_cons_zero, List.set_cons_succ])
  refine wpAnyH_take (i := 0) (v := ?_) rfl (by kernel_rfl) (by kernel_rfl) (by kernel_rfl) (fun _ _ _ h => h) (Or.inl ⟨by rfl, ?_⟩) (by assumption) ?_; rotate_left; (intro w hSw; (try dsimp only at hSw); go_simp; (first | done | (with_reducible rfl))); (try simp only [List.getElem_toArray, List.getElem_cons_succ, List.getElem_cons_zero, Act.put, List.setIfInBounds_toArray, List.set_cons_zero, List.set_cons_succ])
  refine wpAnyH_take (i := 4) (v := ?_) rfl (by kernel_rfl) (by kernel_rfl) (by kernel_rfl) (fun _ _ _ h => h) (Or.inl ⟨by rfl, ?_⟩) (by assumption) ?_; rotate_left; (intro w hSw; (try dsimp only at hSw); go_simp; (first | done | (with_reducible rfl))); (try simp only [List.getElem_toArray, List.getElem_cons_succ, List.getElem_cons_zero, Act.put, List.setIfInBounds_toArray, List.set_cons_zero, List.set_cons_succ])
  refine wpAnyH_take (i := 5) (v := ?_) rfl (by kernel_rfl) (by kernel_rfl) (by kernel_rfl) (fun _ _ _ h => h) (Or.inl ⟨by rfl, ?_⟩) (by assumption) ?_; rotate_left; (intro w hSw; (try dsimp only at hSw); go_simp; (first | done | (with_reducible rfl))); (try simp only [List.getElem_toArray, List.getElem_cons_succ, List.getElem_cons_zero, Act.put, List.setIfInBounds_toArray, List.set_cons_zero, List.set_cons_succ])
  refine wpAnyH_ready (rs := [2]) (by kernel_rfl) (by simp) ?_; refine AllReadyH.cons rfl (fun KK hKK => ?_) AllReadyH.nil
  go_simp
  refine (HRT.out WE (hGE.mat (by omega)) (FoldAt.below hF hBE)).mono ?_
  rintro e w6 ⟨rfl, hb6⟩
  go_wp2_with fail
  refine hKK.out _ _ ⟨(hb6.cell (p := ⟨w1.heap.size, 0, none⟩) (block_lt hk0E)).trans hk0E, (hb6.cell (p := ⟨w1.heap.size, 1, none⟩) (block_lt hk1E)).trans hk1E⟩ (fun hHeld => ?_)
  clear hKK KK
  (try simp only [List.getElem_toArray, List.getElem_cons_succ, List.getElem_cons_zero, Act.put, List.setIfInBounds_toArray, List.set_cons_zero, List.set_cons_succ])
  refine wpAnyH_take (i := 6) (v := ?_) rfl (by kernel_rfl) (by kernel_rfl) (by kernel_rfl) (fun _ _ _ h => h) (Or.inl ⟨by rfl, ?_⟩) (by assumption) ?_; rotate_left; (intro w hSw; (try dsimp only at hSw); go_simp; (first | done | (with_reducible rfl))); (try simp only [List.getElem_toArray, List.getElem_cons_succ, List.getElem_cons_zero, Act.put, List.setIfInBounds_toArray, List.set_cons_zero, List.set_cons_succ])
  refine wpAnyH_take (i := 7) (v := ?_) rfl (by kernel_rfl) (by kernel_rfl) (by kernel_rfl) (fun _ _ _ h => h) (Or.inl ⟨by rfl, ?_⟩) (by assumption) ?_; rotate_left; (intro w hSw; (try dsimp only at hSw); go_simp; (first | done | (with_reducible rfl))); (try simp only [List.getElem_toArray, List.getElem_cons_succ, List.getElem_cons_zero, Act.put, List.setIfInBounds_toArray, List.set_cons_zero, List.set_cons_succ])
  refine wpAnyH_done (by kernel_rfl) ?_ _
  go_wp2_with fail
  go_ret
  exact ⟨rfl, hBE.trans (hb6.mono hBE.size)⟩

end Go.Proofs.YtibidlgikecelaaDoor
