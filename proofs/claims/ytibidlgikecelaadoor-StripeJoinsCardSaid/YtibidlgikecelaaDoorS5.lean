/- Contract: the law StripeApart. -/
import Derived.Test.YtibidlgikecelaaDoorS4
namespace Go.Proofs.YtibidlgikecelaaDoor
open Go.RowKit
set_option linter.unusedVariables false
set_option linter.unusedSimpArgs false

theorem same_no {w : World} {A B : Option Addr} {r c a b : Nat} {M N : Mx} (hA : MatAt w A r c M) (hB : MatAt w B r c N) (h : ¬ EqM r c M N) (hr : r ≤ 1000) :
    Calls Tryd.prog 26 #[.slice A r a, .slice B r b] w fun e w' => e = .returned (.bool false) ∧ w = w' := by
  obtain ⟨vA, hA1, hA2⟩ := hA
  obtain ⟨vB, hB1, hB2⟩ := hB
  have := sametexts_calls (n := r) (m := r) (a := a) (b := b) hA1 hA2 hB1 hB2 (by simp) (by simp) (by simp; omega)
  rwa [decide_eq_false (fun he => h (rowsL_inj he))] at this

theorem lenS_room {K s : Nat} (hK : 1 ≤ K) : s ≤ lenS K s * K := by
  have h := Nat.lt_mul_div_succ (s + K * 8 - 1) (show 0 < K * 8 by omega)
  have h1 : (s + K * 8 - 1) / (K * 8) ≤ max 1 ((s + K * 8 - 1) / (K * 8)) := Nat.le_max_right _ _
  unfold lenS
  generalize max 1 ((s + K * 8 - 1) / (K * 8)) = m at *
  generalize (s + K * 8 - 1) / (K * 8) = q at *
  rw [Nat.mul_add, Nat.mul_one] at h
  have h2 : K * 8 * q ≤ K * 8 * m := Nat.mul_le_mul_left _ h1
  have h3 : 8 * m * K = K * 8 * m := by rw [Nat.mul_comm (8 * m) K, ← Nat.mul_assoc]
  omega
/-- Blobs of one length that part have data that part. -/
theorem cutD_inj {K s p : Nat} {l l' : List B8} (hK : 1 ≤ K) (hp : p < s) (h : EqM K (lenS K s) (cutD l K) (cutD l' K)) : l.getD p 0#8 = l'.getD p 0#8 := by
  have hr := lenS_room (s := s) hK
  have hq := lenS_mul K s
  obtain ⟨h1, h2, h3⟩ := place_cut (K := K) (q := lenS K s / 8) (p := p) hK (by rw [← hq]; omega)
  rw [← hq] at h2
  have h4 := h _ _ h1 h2
  unfold cutD at h4
  rwa [h3] at h4

set_option maxHeartbeats 1000000 in
set_option maxRecDepth 100000 in
theorem stripeApart_calls {w : World} {A : Option Addr} {na ca : Nat} {lb : List B8} {x y p r : Int} (hA : At w A (bys lb)) (hna : na = lb.length) (hma : lb.length ≤ 140737488351232) (hca : lb.length ≤ ca) (hnil : A = none → ca = 0) (hF : FoldAt w) :
    Calls Tryd.prog 16 #[.int .i64 x, .int .i64 y, .slice A na ca, .int .i64 p, .int .i64 r] w (RetV w (.bool true)) := by
  obtain ⟨K, hK1, hK2, hKe⟩ := pick_add 1 x 12 (by decide) (by decide) (by decide)
  obtain ⟨M, hM2, hMe⟩ := pick_mod y 6 (by decide) (by decide)
  rw [Int.natCast_one] at hKe
  have HCO := fun (W : World) => Lib.hid (code_calls (w := W) (Lib.hid hKe) (Lib.hid hMe))
  clear hKe hMe
  have hK12 : K ≤ 12 := by omega
  have hM6 : M < 6 := by omega
  clear hK2 hM2
  have HPD := place_tmod (n := 255) (by omega) r
  have hpd := placeOf_in (n := 255) (by omega) r
  generalize placeOf 255 r = d0 at *
  obtain ⟨d1, rfl⟩ := Int.eq_ofNat_of_zero_le hpd.1
  have hd1 : d1 < 255 := by omega
  replace HPD := Lib.hid (show (IntKind.u64.wrap r).tmod (255 : Int) = (d1 : Int) from HPD)
  have hdn : BitVec.ofNat 8 (1 + d1) ≠ 0#8 := ofNat8_ne (a := 1 + d1) (b := 0) (by omega) (by omega) (by omega)
  have hdv : IntKind.u8.wrap (1 + (d1 : Int)) = ((BitVec.ofNat 8 (1 + d1)).toNat : Int) := by
    rw [byte_nat (by omega), IntKind.wrap_u8]
    omega
  generalize BitVec.ofNat 8 (1 + d1) = d at *
  have HDV := Lib.hid hdv
  clear hpd hdv
  subst hna
  have HC : ∃ l' : List B8, (lb.length ≤ 399 ∧ l' = lb ∨ 399 < lb.length ∧ l' = lb.take 399) := by
    rcases Nat.lt_or_ge 399 lb.length with h | h
    · exact ⟨_, .inr ⟨h, rfl⟩⟩
    · exact ⟨_, .inl ⟨h, rfl⟩⟩
  obtain ⟨l', hcase⟩ := HC
  go_enter Tryd.func16, Tryd.ntmps16
  go_wp2_with fail
  refine (HCO _).out.mono ?_
  rintro e w1 ⟨rfl, hb1⟩
  have hbw := below1' w1 (.cells #[.int .i64 (K : Int), .int .i64 (M : Int)] 38)
  have hk0 : (w1.alloc (.cells #[.int .i64 (K : Int), .int .i64 (M : Int)] 38)).cell? ⟨w1.heap.size, 0, none⟩ = some (.int .i64 (K : Int)) := cell_of_row _ _ 0 _ _ (0, 0) (heap_alloc_new w1 _)
  have hk1 : (w1.alloc (.cells #[.int .i64 (K : Int), .int .i64 (M : Int)] 38)).cell? ⟨w1.heap.size, 1, none⟩ = some (.int .i64 (M : Int)) := cell_of_row _ _ 1 _ _ (0, 0) (heap_alloc_new w1 _)
  have hBw := hb1.trans (hbw.mono hb1.size)
  rcases hcase with ⟨hlen, hl'⟩ | ⟨hlen, hl'⟩
  have hlb : (lb.length : Int) ≤ 399 := by omega
  go_wp2_with fail
  have hAl : At w A (bys l') := by rw [hl']; exact hA
  have hn' : lb.length = l'.length := by rw [hl']
  generalize lb.length = n' at *
  have hnc : n' ≤ ca := hca
  have hn4 : n' ≤ 399 := hlen
  clear hlb hlen hl' hca hma hA
  rotate_left
  have hlb : (399 : Int) < (lb.length : Int) := by omega
  have hsl : (399 : Nat) ≤ ca := by omega
  have hsl2 : (399 : Int) ≤ (ca : Int) := by omega
  go_wp2_with fail
  have hAl : At w A (bys l') := by rw [hl']; simpa [bys, List.map_take] using hA.take 399
  have hn' : 399 = l'.length := by rw [hl']; simp; omega
  clear hsl2 hlb hlen hl' hca hma hA
  have hn4 : (399 : Nat) ≤ 399 := Nat.le_refl _
  have hn4' : ∃ n' : Nat, n' = 399 := ⟨_, rfl⟩
  obtain ⟨n', hnn⟩ := hn4'
  rw [← hnn] at hn' hsl
  replace hn4 : n' ≤ 399 := by omega
  rw [← hnn]
  have hnc : n' ≤ ca := hsl
  clear hsl hnn
  all_goals
    generalize w1.alloc (.cells #[.int .i64 (K : Int), .int .i64 (M : Int)] 38) = w2 at *
    have HCL := Lib.hid (clone_calls (w := w2) (c := ca) (n := n') (hAl.below hBw) hn' hnil (by omega))
    have HN := Lib.hid hn'
    clear hn'
    refine HCL.out.mono ?_
    rintro e w3 ⟨A3, c3, rfl, ho3, hb3⟩
    clear HCL hnil hnc HCO
    have hkl := block_lt hk0
    have hB3 := hBw.trans (hb3.mono hBw.size)
    have hk03 := (hb3.cell (p := ⟨w1.heap.size, 0, none⟩) (block_lt hk0)).trans hk0
    have hk13 := (hb3.cell (p := ⟨w1.heap.size, 1, none⟩) (block_lt hk1)).trans hk1
    have hz3 := hb3.size
    clear hk0 hk1 hbw hb3
    have hbl := below1' w3 (.cells #[.int .u8 7] 5)
    have ho4 := own_below ho3 hbl
    have h7 : At (w3.alloc (.cells #[.int .u8 7] 5)) (some ⟨w3.heap.size, 0, none⟩) (bys [7#8]) := at_new w3 #[.int .u8 7] 5 (0, 0)
    have hz4 : w2.heap.size ≤ (w3.alloc (.cells #[.int .u8 7] 5)).heap.size := by simp; omega
    have hk04 := (hbl.cell (p := ⟨w1.heap.size, 0, none⟩) (block_lt hk03)).trans hk03
    have hk14 := (hbl.cell (p := ⟨w1.heap.size, 1, none⟩) (block_lt hk13)).trans hk13
    have hB4 := hB3.trans (hbl.mono hB3.size)
    go_wp2_with (at_builtin; refine app_bytes rfl (.tmp 25) (.tmp 26) rfl w2.heap.size rfl ho4 rfl rfl h7 (by simp) (by omega) hz4 ?_; intro A5 c5 w5 ho5 hb5 hg5 hc5; clear ho4 h7 hg5)
    have hkl : w1.heap.size < w2.heap.size := hkl
    have hk05 := (hb5.cell (p := ⟨w1.heap.size, 0, none⟩) hkl).trans hk04
    have hk15 := (hb5.cell (p := ⟨w1.heap.size, 1, none⟩) hkl).trans hk14
    have hB5 := hB4.trans (hb5.mono hBw.size)
    have HNB : Hid (n' + 1 = (l' ++ [7#8]).length) := Lib.hid (by rw [List.length_append, ← HN.out]; rfl)
    have hN4 : n' + 1 ≤ 400 := by omega
    have hN1 : 1 ≤ n' + 1 := by omega
    generalize l' ++ [7#8] = lB at *
    generalize n' + 1 = N at *
    have hAB := own_at ho5
    clear hk03 hk13 hk04 hk14 hB3 hB4 hb5 hbl hz3 hz4 HN hn4 hAl ho3
    have HC2 := Lib.hid (clone_calls (w := w5) (c := c5) hAB HNB.out (own_nil ho5) (by rw [← HNB.out]; omega))
    refine HC2.out.mono ?_
    rintro e w6 ⟨A6, c6, rfl, ho6, hb6⟩
    have hk06 := (hb6.cell (p := ⟨w1.heap.size, 0, none⟩) (block_lt hk05)).trans hk05
    have hk16 := (hb6.cell (p := ⟨w1.heap.size, 1, none⟩) (block_lt hk15)).trans hk15
    have hAB6 := hAB.below hb6
    have hB6 := hB5.trans (hb6.mono hB5.size)
    obtain ⟨g6, rfl⟩ := own_block ho6 (by omega)
    have hg6 := own_ge ho6
    have HPI := place_wrap (n := N) (by omega) (by omega) p
    have hpi := placeOf_in (n := N) (by omega) p
    generalize placeOf N p = i0 at *
    obtain ⟨i, rfl⟩ := Int.eq_ofNat_of_zero_le hpi.1
    have hi : i < N := by omega
    have hiI : (i : Int) < (N : Int) := by omega
    replace HPI := Lib.hid HPI
    have hiB : i < lB.length := by rw [← HNB.out]; exact hi
    have hcx := own_cell ho6 hiB
    have hfx := ho6.frozenAt i
    have hst := own_store ho6 i (lB[i] ^^^ d)
    have hgs := grown_set w6 g6 i (bv (lB[i] ^^^ d))
    have hXY := b8_xor lB[i] d
    rw [bv_xor] at hst hgs
    have hdiff : lB.getD i 0#8 ≠ (lB.set i (lB[i] ^^^ d)).getD i 0#8 := by
      rw [List.getD_eq_getElem?_getD, List.getD_eq_getElem?_getD, List.getElem?_eq_getElem hiB, List.getElem?_set_self hiB]
      intro h
      apply hdn
      have h := congrArg (fun t => lB[i] ^^^ t) (show lB[i] = lB[i] ^^^ d from h)
      simpa [← BitVec.xor_assoc] using h.symm
    have HN2 : Hid (N = (lB.set i (lB[i] ^^^ d)).length) := Lib.hid (by rw [List.length_set]; exact HNB.out)
    have hnw : IntKind.u64.wrap (N : Int) = (N : Int) := by rw [IntKind.wrap_u64]; omega
    have hN0 : N ≠ 0 := by omega
    have hg6n : w1.heap.size ≠ g6 := by have := block_lt hk05; omega
    generalize lB.set i (lB[i] ^^^ d) = lC at *
    generalize lB[i] = z at *
    have hb7 := hb6.setCell (p := ⟨g6, i, none⟩) hg6.1 (.int .u8 ((z.toNat ^^^ d.toNat : Nat) : Int))
    have hAB7 := hAB.below hb7
    have hk07 := hgs.cell hk06 (by simpa using hg6n)
    have hk17 := hgs.cell hk16 (by simpa using hg6n)
    have hB7 := hB5.trans (hb7.mono hB5.size)
    clear hpi HC2 hk05 hk15 hB5 hb6 hAB hdn hiB ho5
    have u1 := HPI.out
    have u4 := HPD.out
    have u5 : IntKind.u64.wrap (d1 : Int) = (d1 : Int) := by rw [IntKind.wrap_u64]; omega
    have u6 : IntKind.u64.wrap (1 + (d1 : Int)) = 1 + (d1 : Int) := by rw [IntKind.wrap_u64]; omega
    have u7 := HDV.out
    go_wp2_with fail
    clear u1 u4 u5 u6 u7 hXY hcx hfx
    generalize w6.setCell ⟨g6, i, none⟩ (.int .u8 ((z.toNat ^^^ d.toNat : Nat) : Int)) = w7 at *
    have hcc := own_le hst
    have hAC7 := own_at hst
    have HCA := Lib.hid (cut_calls (c := c5) hAB7 HNB.out (by rw [← HNB.out]; omega) (by rw [← HNB.out]; omega) hK1 (by omega : K + M ≤ 255) (FoldAt.below hF hB7))
    rw [← HNB.out] at HCA
    have hnn1 := lenS_le (s := N) hK1 hN4
    have hnn2 := lenS_pos K N
    have hQ1 : EqM K (lenS K N) (mulM K (genM K) (cutD lB K)) (cutD lB K) := gen_top _
    have hQ2 : EqM K (lenS K N) (mulM K (genM K) (cutD lC K)) (cutD lC K) := gen_top _
    have hQQ : ¬ EqM (K + M) (lenS K N) (mulM K (genM K) (cutD lB K)) (mulM K (genM K) (cutD lC K)) := fun h =>
      hdiff (cutD_inj hK1 hi fun a b ha hb => by rw [← hQ1 a b ha hb, ← hQ2 a b ha hb]; exact h a b (by omega) hb)
    have HLE := fun (W : World) => Lib.hid (length_calls (w := W) (s := N) hK1 (by omega : K + M ≤ 255) hN4)
    have HCB := fun (W : World) (hW : Below w7.heap.size w7 W) => cut_calls (c := c6) (hAC7.below hW) HN2.out (by rw [← HN2.out]; exact hcc) (by rw [← HN2.out]; omega) hK1 (by omega : K + M ≤ 255) (FoldAt.below hF (hB7.trans (hW.mono hB7.size)))
    rw [← HN2.out] at HCB
    generalize mulM K (genM K) (cutD lB K) = Q1 at *
    generalize mulM K (genM K) (cutD lC K) = Q2 at *
    generalize lenS K N = nn at *
    clear hQ1 hQ2 hdiff hst hgs
    refine HCA.out.mono ?_
    rintro e w8 ⟨A8, c8, blk8, rfl, hG8, hb8⟩
    obtain ⟨g8, rfl, hg8, hc8, _, _⟩ := hG8.cell (i := 0) (by omega)
    replace HCB := Lib.hid (HCB w8 hb8)
    have hk08 := (hb8.cell (p := ⟨w1.heap.size, 0, none⟩) (block_lt hk07)).trans hk07
    have hk18 := (hb8.cell (p := ⟨w1.heap.size, 1, none⟩) (block_lt hk17)).trans hk17
    have hB8 := hB7.trans (hb8.mono hB7.size)
    clear hk07 hk17 HCA hAB7 hAC7
    go_wp2_with fail
    refine HCB.out.mono ?_
    rintro e w9 ⟨A9, c9, blk9, rfl, hG9, hb9⟩
    have hG89 := hG8.below hb9
    have hc89 := (hb9.cell (p := ⟨g8, 0, none⟩) (block_lt hc8)).trans hc8
    have hk09 := (hb9.cell (p := ⟨w1.heap.size, 0, none⟩) (block_lt hk08)).trans hk08
    have hk19 := (hb9.cell (p := ⟨w1.heap.size, 1, none⟩) (block_lt hk18)).trans hk18
    have hB9 := hB8.trans (hb9.mono hB8.size)
    clear hk08 hk18 hc8 HCB hG8
    go_wp2_with fail
    have hc9D : w9.drew.cell? ⟨g8, 0, none⟩ = some (.slice (some ⟨blk8 0, 0, none⟩) nn nn) := hc89
    have hk0D : w9.drew.cell? ⟨w1.heap.size, 0, none⟩ = some (.int .i64 (K : Int)) := hk09
    have hk1D : w9.drew.cell? ⟨w1.heap.size, 1, none⟩ = some (.int .i64 (M : Int)) := hk19
    have hbd : Below w9.heap.size w9 w9.drew := (belowN 1 : Below w9.heap.size w9 (w9.drewN 1))
    have hG8D := hG89.below hbd
    have hG9D := hG9.below hbd
    have hB9D := hB9.drew
    refine wp_region_held_drew (S := fun w' => w'.cell? ⟨g8, 0, none⟩ = some (.slice (some ⟨blk8 0, 0, none⟩) nn nn) ∧ w'.cell? ⟨w1.heap.size, 0, none⟩ = some (.int .i64 (K : Int)) ∧ w'.cell? ⟨w1.heap.size, 1, none⟩ = some (.int .i64 (M : Int))) (by kernel_rfl) ⟨hc9D, hk0D, hk1D⟩ (fun hHeld => ?_)
    have HSN := Lib.hid (same_no (a := c8) (b := c9) (hG8D.mat (by omega)) (hG9D.mat (by omega)) hQQ (by omega))
    generalize w9.drew = WD at *
    have hKM0 : (0 : Int) < (K : Int) + (M : Int) := by omega
    clear hc89 hk09 hk19 hG89 hG9 hB9 hbd
    refine wpAnyH_take (i := 0) (v := ?_) rfl (by kernel_rfl) (by kernel_rfl) (by kernel_rfl) (fun _ _ _ h => h) (Or.inl ⟨by rfl, ?_⟩) (by assumption) ?_; rotate_left; (intro w hSw; (try dsimp only at hSw); go_simp; (first | done | (with_reducible rfl))); (try simp only [List.getElem_toArray, List.getElem_cons_succ, List.getElem_cons_zero, Act.put, List.setIfInBounds_toArray, List.set_cons_zero, List.set_cons_succ])
    refine wpAnyH_take (i := 1) (v := ?_) rfl (by kernel_rfl) (by kernel_rfl) (by kernel_rfl) (fun _ _ _ h => h) (Or.inl ⟨by rfl, ?_⟩) (by assumption) ?_; rotate_left; (intro w hSw; (try dsimp only at hSw); go_simp; (first | done | (with_reducible rfl))); (try simp only [List.getElem_toArray, List.getElem_cons_succ, List.getElem_cons_zero, Act.put, List.setIfInBounds_toArray, List.set_cons_zero, List.set_cons_succ])
    refine wpAnyH_take (i := 2) (v := ?_) rfl (by kernel_rfl) (by kernel_rfl) (by kernel_rfl) (fun _ _ _ h => h) (Or.inl ⟨by rfl, ?_⟩) (by assumption) ?_; rotate_left; (intro w hSw; (try dsimp only at hSw); go_simp; (first | done | (with_reducible rfl))); (try simp only [List.getElem_toArray, List.getElem_cons_succ, List.getElem_cons_zero, Act.put, List.setIfInBounds_toArray, List.set_cons_zero, List.set_cons_succ])
    refine wpAnyH_take (i := 3) (v := ?_) rfl (by kernel_rfl) (by kernel_rfl) (by kernel_rfl) (fun _ _ _ h => h) (Or.inl ⟨by rfl, ?_⟩) (by assumption) ?_; rotate_left; (intro w hSw; (try dsimp only at hSw); go_simp; (first | done | (with_reducible rfl))); (try simp only [List.getElem_toArray, List.getElem_cons_succ, List.getElem_cons_zero, Act.put, List.setIfInBounds_toArray, List.set_cons_zero, List.set_cons_succ])
    refine wpAnyH_take (i := 4) (v := ?_) rfl (by kernel_rfl) (by kernel_rfl) (by kernel_rfl) (fun _ _ _ h => h) (Or.inl ⟨by rfl, ?_⟩) (by assumption) ?_; rotate_left; (intro w hSw; (try dsimp only at hSw); go_simp; (first | done | (with_reducible rfl))); (try simp only [List.getElem_toArray, List.getElem_cons_succ, List.getElem_cons_zero, Act.put, List.setIfInBounds_toArray, List.set_cons_zero, List.set_cons_succ])
    refine wpAnyH_take (i := 5) (v := ?_) rfl (by kernel_rfl) (by kernel_rfl) (by kernel_rfl) (fun _ _ _ h => h) (Or.inl ⟨by rfl, ?_⟩) (by assumption) ?_; rotate_left; (intro w hSw; (try dsimp only at hSw); go_simp; (first | done | (with_reducible rfl))); (try simp only [List.getElem_toArray, List.getElem_cons_succ, List.getElem_cons_zero, Act.put, List.setIfInBounds_toArray, List.set_cons_zero, List.set_cons_succ])
    refine wpAnyH_take (i := 6) (v := ?_) rfl (by kernel_rfl) (by kernel_rfl) (by kernel_rfl) (fun _ _ _ h => h) (Or.inl ⟨by rfl, ?_⟩) (by assumption) ?_; rotate_left; (intro w hSw; (try dsimp only at hSw); go_simp; (first | done | (with_reducible rfl))); (try simp only [List.getElem_toArray, List.getElem_cons_succ, List.getElem_cons_zero, Act.put, List.setIfInBounds_toArray, List.set_cons_zero, List.set_cons_succ])
    refine wpAnyH_take (i := 7) (v := ?_) rfl (by kernel_rfl) (by kernel_rfl) (by kernel_rfl) (fun _ _ _ h => h) (Or.inl ⟨by rfl, ?_⟩) (by assumption) ?_; rotate_left; (intro w hSw; (try dsimp only at hSw); go_simp; (first | done | (with_reducible rfl))); (try simp only [List.getElem_toArray, List.getElem_cons_succ, List.getElem_cons_zero, Act.put, List.setIfInBounds_toArray, List.set_cons_zero, List.set_cons_succ])
    refine wpAnyH_take (i := 8) (v := ?_) rfl (by kernel_rfl) (by kernel_rfl) (by kernel_rfl) (fun _ _ _ h => h) (Or.inl ⟨by rfl, ?_⟩) (by assumption) ?_; rotate_left; (intro w hSw; (try dsimp only at hSw); go_simp; (first | done | (with_reducible rfl))); (try simp only [List.getElem_toArray, List.getElem_cons_succ, List.getElem_cons_zero, Act.put, List.setIfInBounds_toArray, List.set_cons_zero, List.set_cons_succ])
    refine wpAnyH_take (i := 9) (v := ?_) rfl (by kernel_rfl) (by kernel_rfl) (by kernel_rfl) (fun _ _ _ h => h) (Or.inl ⟨by rfl, ?_⟩) (by assumption) ?_; rotate_left; (intro w hSw; (try dsimp only at hSw); go_simp; (first | done | (with_reducible rfl))); (try simp only [List.getElem_toArray, List.getElem_cons_succ, List.getElem_cons_zero, Act.put, List.setIfInBounds_toArray, List.set_cons_zero, List.set_cons_succ])
    refine wpAnyH_take (i := 10) (v := ?_) rfl (by kernel_rfl) (by kernel_rfl) (by kernel_rfl) (fun _ _ _ h => h) (Or.inl ⟨by rfl, ?_⟩) (by assumption) ?_; rotate_left; (intro w hSw; (try dsimp only at hSw); go_simp; (first | done | (with_reducible rfl))); (try simp only [List.getElem_toArray, List.getElem_cons_succ, List.getElem_cons_zero, Act.put, List.setIfInBounds_toArray, List.set_cons_zero, List.set_cons_succ])
    refine wpAnyH_take (i := 11) (v := ?_) rfl (by kernel_rfl) (by kernel_rfl) (by kernel_rfl) (fun _ _ _ h => h) (Or.inl ⟨by rfl, ?_⟩) (by assumption) ?_; rotate_left; (intro w hSw; (try dsimp only at hSw); go_simp; (first | done | (with_reducible rfl))); (try simp only [List.getElem_toArray, List.getElem_cons_succ, List.getElem_cons_zero, Act.put, List.setIfInBounds_toArray, List.set_cons_zero, List.set_cons_succ])
    refine wpAnyH_take (i := 12) (v := ?_) rfl (by kernel_rfl) (by kernel_rfl) (by kernel_rfl) (fun _ _ _ h => h) (Or.inl ⟨by rfl, ?_⟩) (by assumption) ?_; rotate_left; (intro w hSw; (try dsimp only at hSw); go_simp; (first | done | (with_reducible rfl))); (try simp only [List.getElem_toArray, List.getElem_cons_succ, List.getElem_cons_zero, Act.put, List.setIfInBounds_toArray, List.set_cons_zero, List.set_cons_succ])
    refine wpAnyH_take (i := 13) (v := ?_) rfl (by kernel_rfl) (by kernel_rfl) (by kernel_rfl) (fun _ _ _ h => h) (Or.inl ⟨by rfl, ?_⟩) (by assumption) ?_; rotate_left; (intro w hSw; (try dsimp only at hSw); go_simp; (first | done | (with_reducible rfl))); (try simp only [List.getElem_toArray, List.getElem_cons_succ, List.getElem_cons_zero, Act.put, List.setIfInBounds_toArray, List.set_cons_zero, List.set_cons_succ])
    refine wpAnyH_take (i := 14) (v := ?_) rfl (by kernel_rfl) (by kernel_rfl) (by kernel_rfl) (fun _ _ _ h => h) (Or.inl ⟨by rfl, ?_⟩) (by assumption) ?_; rotate_left; (intro w hSw; (try dsimp only at hSw); go_simp; (first | done | (with_reducible rfl))); (try simp only [List.getElem_toArray, List.getElem_cons_succ, List.getElem_cons_zero, Act.put, List.setIfInBounds_toArray, List.set_cons_zero, List.set_cons_succ])
    refine wpAnyH_take (i := 15) (v := ?_) rfl (by kernel_rfl) (by kernel_rfl) (by kernel_rfl) (fun _ _ _ h => h) (Or.inl ⟨by rfl, ?_⟩) (by assumption) ?_; rotate_left; (intro w hSw; (try dsimp only at hSw); go_simp; (first | done | (with_reducible rfl))); (try simp only [List.getElem_toArray, List.getElem_cons_succ, List.getElem_cons_zero, Act.put, List.setIfInBounds_toArray, List.set_cons_zero, List.set_cons_succ])
    refine wpAnyH_ready (rs := [16]) (by kernel_rfl) (by simp) ?_; refine AllReadyH.cons rfl (fun KK hKK => ?_) AllReadyH.nil
    go_simp
    refine HSN.out.mono ?_
    rintro e w10 ⟨rfl, rfl⟩
    go_wp2_with fail
    refine hKK.out _ _ ⟨hc9D, hk0D, hk1D⟩ (fun hHeld => ?_)
    clear hKK KK
    (try simp only [List.getElem_toArray, List.getElem_cons_succ, List.getElem_cons_zero, Act.put, List.setIfInBounds_toArray, List.set_cons_zero, List.set_cons_succ])
    refine wpAnyH_take (i := 17) (v := ?_) rfl (by kernel_rfl) (by kernel_rfl) (by kernel_rfl) (fun _ _ _ h => h) (Or.inl ⟨by rfl, ?_⟩) (by assumption) ?_; rotate_left; (intro w hSw; (try dsimp only at hSw); go_simp; (first | done | (with_reducible rfl))); (try simp only [List.getElem_toArray, List.getElem_cons_succ, List.getElem_cons_zero, Act.put, List.setIfInBounds_toArray, List.set_cons_zero, List.set_cons_succ])
    refine wpAnyH_take (i := 18) (v := ?_) rfl (by kernel_rfl) (by kernel_rfl) (by kernel_rfl) (fun _ _ _ h => h) (Or.inl ⟨by rfl, ?_⟩) (by assumption) ?_; rotate_left; (intro w hSw; (try dsimp only at hSw); go_simp; (first | done | (with_reducible rfl))); (try simp only [List.getElem_toArray, List.getElem_cons_succ, List.getElem_cons_zero, Act.put, List.setIfInBounds_toArray, List.set_cons_zero, List.set_cons_succ])
    refine wpAnyH_take (i := 19) (v := ?_) rfl (by kernel_rfl) (by kernel_rfl) (by kernel_rfl) (fun _ _ _ h => h) (Or.inl ⟨by rfl, ?_⟩) (by assumption) ?_; rotate_left; (intro w hSw; (try dsimp only at hSw); go_simp; (first | done | (with_reducible rfl))); (try simp only [List.getElem_toArray, List.getElem_cons_succ, List.getElem_cons_zero, Act.put, List.setIfInBounds_toArray, List.set_cons_zero, List.set_cons_succ])
    refine wpAnyH_take (i := 20) (v := ?_) rfl (by kernel_rfl) (by kernel_rfl) (by kernel_rfl) (fun _ _ _ h => h) (Or.inl ⟨by rfl, ?_⟩) (by assumption) ?_; rotate_left; (intro w hSw; (try dsimp only at hSw); go_simp; (first | done | (with_reducible rfl))); (try simp only [List.getElem_toArray, List.getElem_cons_succ, List.getElem_cons_zero, Act.put, List.setIfInBounds_toArray, List.set_cons_zero, List.set_cons_succ])
    refine wpAnyH_take (i := 21) (v := ?_) rfl (by kernel_rfl) (by kernel_rfl) (by kernel_rfl) (fun _ _ _ h => h) (Or.inl ⟨by rfl, ?_⟩) (by assumption) ?_; rotate_left; (intro w hSw; (try dsimp only at hSw); go_simp; (first | done | (with_reducible rfl))); (try simp only [List.getElem_toArray, List.getElem_cons_succ, List.getElem_cons_zero, Act.put, List.setIfInBounds_toArray, List.set_cons_zero, List.set_cons_succ])
    refine wpAnyH_take (i := 22) (v := ?_) rfl (by kernel_rfl) (by kernel_rfl) (by kernel_rfl) (fun _ _ _ h => h) (Or.inl ⟨by rfl, ?_⟩) (by assumption) ?_; rotate_left; (intro w hSw; (try dsimp only at hSw); go_simp; (first | done | (with_reducible rfl))); (try simp only [List.getElem_toArray, List.getElem_cons_succ, List.getElem_cons_zero, Act.put, List.setIfInBounds_toArray, List.set_cons_zero, List.set_cons_succ])
    refine wpAnyH_take (i := 23) (v := ?_) rfl (by kernel_rfl) (by kernel_rfl) (by kernel_rfl) (fun _ _ _ h => h) (Or.inl ⟨by rfl, ?_⟩) (by assumption) ?_; rotate_left; (intro w hSw; (try dsimp only at hSw); go_simp; (first | done | (with_reducible rfl))); (try simp only [List.getElem_toArray, List.getElem_cons_succ, List.getElem_cons_zero, Act.put, List.setIfInBounds_toArray, List.set_cons_zero, List.set_cons_succ])
    refine wpAnyH_take (i := 24) (v := ?_) rfl (by kernel_rfl) (by kernel_rfl) (by kernel_rfl) (fun _ _ _ h => h) (Or.inl ⟨by rfl, ?_⟩) (by assumption) ?_; rotate_left; (intro w hSw; (try dsimp only at hSw); go_simp; (first | done | (with_reducible rfl))); (try simp only [List.getElem_toArray, List.getElem_cons_succ, List.getElem_cons_zero, Act.put, List.setIfInBounds_toArray, List.set_cons_zero, List.set_cons_succ])
    refine wpAnyH_take (i := 25) (v := ?_) rfl (by kernel_rfl) (by kernel_rfl) (by kernel_rfl) (fun _ _ _ h => h) (Or.inl ⟨by rfl, ?_⟩) (by assumption) ?_; rotate_left; (intro w hSw; (try dsimp only at hSw); go_simp; (first | done | (with_reducible rfl))); (try simp only [List.getElem_toArray, List.getElem_cons_succ, List.getElem_cons_zero, Act.put, List.setIfInBounds_toArray, List.set_cons_zero, List.set_cons_succ])
    refine wpAnyH_take (i := 26) (v := ?_) rfl (by kernel_rfl) (by kernel_rfl) (by kernel_rfl) (fun _ _ _ h => h) (Or.inl ⟨by rfl, ?_⟩) (by assumption) ?_; rotate_left; (intro w hSw; (try dsimp only at hSw); go_simp; (first | done | (with_reducible rfl))); (try simp only [List.getElem_toArray, List.getElem_cons_succ, List.getElem_cons_zero, Act.put, List.setIfInBounds_toArray, List.set_cons_zero, List.set_cons_succ])
    refine wpAnyH_ready (rs := [27]) (by kernel_rfl) (by simp) ?_; refine AllReadyH.cons rfl (fun KK hKK => ?_) AllReadyH.nil
    go_simp
    refine (HLE _).out.mono ?_
    rintro e w11 ⟨rfl, hb11⟩
    go_wp2_with fail
    refine hKK.out _ _ ⟨(hb11.cell (p := ⟨g8, 0, none⟩) (block_lt hc9D)).trans hc9D, (hb11.cell (p := ⟨w1.heap.size, 0, none⟩) (block_lt hk0D)).trans hk0D, (hb11.cell (p := ⟨w1.heap.size, 1, none⟩) (block_lt hk1D)).trans hk1D⟩ (fun hHeld => ?_)
    clear hKK KK
    (try simp only [List.getElem_toArray, List.getElem_cons_succ, List.getElem_cons_zero, Act.put, List.setIfInBounds_toArray, List.set_cons_zero, List.set_cons_succ])
    refine wpAnyH_take (i := 28) (v := ?_) rfl (by kernel_rfl) (by kernel_rfl) (by kernel_rfl) (fun _ _ _ h => h) (Or.inl ⟨by rfl, ?_⟩) (by assumption) ?_; rotate_left; (intro w hSw; (try dsimp only at hSw); go_simp; (first | done | (with_reducible rfl))); (try simp only [List.getElem_toArray, List.getElem_cons_succ, List.getElem_cons_zero, Act.put, List.setIfInBounds_toArray, List.set_cons_zero, List.set_cons_succ])
    refine wpAnyH_take (i := 29) (v := ?_) rfl (by kernel_rfl) (by kernel_rfl) (by kernel_rfl) (fun _ _ _ h => h) (Or.inl ⟨by rfl, ?_⟩) (by assumption) ?_; rotate_left; (intro w hSw; (try dsimp only at hSw); go_simp; (first | done | (with_reducible rfl))); (try simp only [List.getElem_toArray, List.getElem_cons_succ, List.getElem_cons_zero, Act.put, List.setIfInBounds_toArray, List.set_cons_zero, List.set_cons_succ])
    refine wpAnyH_take (i := 30) (v := ?_) rfl (by kernel_rfl) (by kernel_rfl) (by kernel_rfl) (fun _ _ _ h => h) (Or.inl ⟨by rfl, ?_⟩) (by assumption) ?_; rotate_left; (intro w hSw; (try dsimp only at hSw); go_simp; (first | done | (with_reducible rfl))); (try simp only [List.getElem_toArray, List.getElem_cons_succ, List.getElem_cons_zero, Act.put, List.setIfInBounds_toArray, List.set_cons_zero, List.set_cons_succ])
    refine wpAnyH_done (by kernel_rfl) ?_ _
    go_wp2_with fail
    go_ret
    exact ⟨rfl, hB9D.trans (hb11.mono hB9D.size)⟩

end Go.Proofs.YtibidlgikecelaaDoor
