/- Contract: the law MatrixBrackets. -/
import Derived.Test.YtibidlgikecelaaDoorW13
namespace Go.Proofs.YtibidlgikecelaaDoor
open Go.RowKit
set_option linter.unusedVariables false
set_option linter.unusedSimpArgs false

/-- A number that is cut to a small one. -/
theorem pick_mod (x K : Int) (hk : 0 < K) (hk2 : K ≤ 1000) : ∃ m : Nat, (m : Int) < K ∧ wrap64 ((IntKind.u64.wrap x).tmod K) = (m : Int) := by
  have h0 := wrap_u64_nonneg x
  generalize IntKind.u64.wrap x = y at *
  have h1 := Int.tmod_eq_emod_of_nonneg (b := K) h0
  have h2 := Int.emod_nonneg y (show K ≠ 0 by omega)
  have h3 := Int.emod_lt_of_pos y hk
  rw [h1]
  generalize y % K = z at *
  obtain ⟨m, rfl⟩ := Int.eq_ofNat_of_zero_le h2
  exact ⟨m, h3, IntWalk.wrap64_in _ (by omega)⟩
theorem pick_add (a : Nat) (x K : Int) (hk : 0 < K) (hk2 : K ≤ 1000) (ha : a ≤ 1000) : ∃ m : Nat, a ≤ m ∧ (m : Int) < a + K ∧ wrap64 ((a : Int) + wrap64 ((IntKind.u64.wrap x).tmod K)) = (m : Int) := by
  obtain ⟨m, h1, h2⟩ := pick_mod x K hk hk2
  refine ⟨a + m, by omega, by omega, ?_⟩
  rw [h2, IntWalk.wrap64_in _ (by omega)]
  omega

theorem OwnG.facts {w : World} {B r c cap : Nat} {A : Option Addr} {blk : Nat → Nat} {M : Mx} (h : OwnG w B A cap blk r c M) (hm : c ≤ 1000) : At w A (headsV blk r c) ∧ Texts w (headsV blk r c) (rowsL r c M) :=
  ⟨h.at, h.texts (by omega)⟩
/-- A matrix that is read. -/
def MatAt (w : World) (A : Option Addr) (r c : Nat) (M : Mx) : Prop := ∃ vs, At w A vs ∧ Texts w vs (rowsL r c M)
theorem MatAt.below {w w' : World} {A : Option Addr} {r c : Nat} {M : Mx} (h : MatAt w A r c M) (hb : Below w.heap.size w w') : MatAt w' A r c M := by
  obtain ⟨vs, h1, h2⟩ := h
  exact ⟨vs, h1.below hb, h2.below hb⟩
theorem OwnG.mat {w : World} {B r c cap : Nat} {A : Option Addr} {blk : Nat → Nat} {M : Mx} (h : OwnG w B A cap blk r c M) (hm : c ≤ 1000) : MatAt w A r c M := ⟨_, h.at, h.texts (by omega)⟩
theorem Grid.mat {w : World} {B g r c : Nat} {blk : Nat → Nat} {M : Mx} (h : Grid w B g blk r c M) (hm : c ≤ 1000) : MatAt w (some ⟨g, 0, none⟩) r c M := ⟨_, h.at, h.texts (by omega)⟩
theorem MatAt.congr {w : World} {A : Option Addr} {r c : Nat} {M N : Mx} (h : MatAt w A r c M) (hN : EqM r c M N) : MatAt w A r c N := by
  obtain ⟨vs, h1, h2⟩ := h
  exact ⟨vs, h1, by rw [← rowsL_congr hN]; exact h2⟩

/-- The contracts once more, over matrices that are read. -/
theorem mul_mat {w : World} {A B : Option Addr} {r n c cA cB : Nat} {MA MB : Mx} (hA : MatAt w A r n MA) (hB : MatAt w B n c MB) (hr : 0 < r ∧ r ≤ 255) (hn : 0 < n ∧ n ≤ 255) (hc : 0 < c ∧ c ≤ 255) (hF : FoldAt w) :
    Calls Tryd.prog 24 #[.slice A r cA, .slice B n cB] w fun e w' => ∃ g, e = .returned (.tuple #[.slice (some ⟨g, 0, none⟩) r r, .int .i64 0]) ∧ MatAt w' (some ⟨g, 0, none⟩) r c (mulM n MA MB) ∧ Below w.heap.size w w' := by
  obtain ⟨vA, hA1, hA2⟩ := hA
  obtain ⟨vB, hB1, hB2⟩ := hB
  refine (matmul_calls hA1 hA2 hB1 hB2 hr.1 hr.2 hn.1 hn.2 hc.1 hc.2 hF).mono ?_
  rintro e w' ⟨g, blk, rfl, hG, hb⟩
  exact ⟨g, rfl, hG.mat (by omega), hb⟩
theorem ident_mat {w : World} {n : Nat} (hn : 1 ≤ n ∧ n ≤ 255) : Calls Tryd.prog 25 #[.int .i64 (n : Int)] w fun e w' => ∃ g, e = .returned (.tuple #[.slice (some ⟨g, 0, none⟩) n n, .int .i64 0]) ∧ MatAt w' (some ⟨g, 0, none⟩) n n oneM ∧ Below w.heap.size w w' := by
  refine (ident_calls hn.1 hn.2).mono ?_
  rintro e w' ⟨g, blk, rfl, hG, hb⟩
  exact ⟨g, rfl, hG.mat (by omega), hb⟩
theorem same_mat {w : World} {A B : Option Addr} {r c a b : Nat} {M N : Mx} (hA : MatAt w A r c M) (hB : MatAt w B r c N) (h : EqM r c M N) (hr : r ≤ 1000) :
    Calls Tryd.prog 26 #[.slice A r a, .slice B r b] w fun e w' => e = .returned (.bool true) ∧ w = w' := by
  obtain ⟨vA, hA1, hA2⟩ := hA
  obtain ⟨vB, hB1, hB2⟩ := hB
  have := sametexts_calls (n := r) (m := r) (a := a) (b := b) hA1 hA2 hB1 hB2 (by simp) (by simp) (by simp; omega)
  rwa [decide_eq_true (rowsL_congr h)] at this

set_option maxHeartbeats 800000 in
set_option maxRecDepth 100000 in
theorem matrixBrackets_calls {w : World} {A B C : Option Addr} {na ca nb cb nc cc : Nat} {la lb lc : List B8} {x : Int} (hA : At w A (bys la)) (hna : na = la.length) (hma : la.length ≤ 140737488351232)
    (hB : At w B (bys lb)) (hnb : nb = lb.length) (hmb : lb.length ≤ 140737488351232) (hC : At w C (bys lc)) (hnc : nc = lc.length) (hmc : lc.length ≤ 140737488351232) (hF : FoldAt w) (hx : (Lit.int .i64 x).wf = true) :
    Calls Tryd.prog 3 #[.slice A na ca, .slice B nb cb, .slice C nc cc, .int .i64 x] w (RetV w (.bool true)) := by
  obtain ⟨n, hn1, hn2, hne⟩ := pick_add 1 x 6 (by decide) (by decide) (by decide)
  have HN := Lib.hid hne
  clear hne
  have hnA : n ≤ 6 := by omega
  have hn : 0 < n ∧ n ≤ 255 := by omega
  have hn' : 1 ≤ n ∧ n ≤ 255 := hn
  go_enter Tryd.func3, Tryd.ntmps3
  go_wp2_with fail
  have hne := HN.out
  rw [Int.natCast_one] at hne
  rw [hne]
  clear hne HN
  refine (square_calls hA rfl hma hnA).mono ?_
  rintro e w1 ⟨A1, c1, k1, rfl, hG1, HB⟩
  have X1 := hG1.mat (by omega)
  clear hG1
  go_wp2_with fail
  refine (square_calls (hB.below HB) rfl hmb hnA).mono ?_
  rintro e w2 ⟨A2, c2, k2, rfl, hG2, hb⟩
  have X2 := hG2.mat (by omega)
  clear hG2
  replace X1 := X1.below hb
  replace HB := HB.trans (hb.mono HB.size)
  clear hb
  go_wp2_with fail
  refine (square_calls (hC.below HB) rfl hmc hnA).mono ?_
  rintro e w3 ⟨A3, c3, k3, rfl, hG3, hb⟩
  have X3 := hG3.mat (by omega)
  clear hG3
  replace X1 := X1.below hb
  replace X2 := X2.below hb
  replace HB := HB.trans (hb.mono HB.size)
  clear hb
  go_wp2_with fail
  refine (mul_mat X1 X2 hn hn hn (hF.below HB)).mono ?_
  rintro e w4 ⟨g4, rfl, P, hb⟩
  replace X1 := X1.below hb
  replace X2 := X2.below hb
  replace X3 := X3.below hb
  replace HB := HB.trans (hb.mono HB.size)
  clear hb
  go_wp2_with fail
  refine (mul_mat X2 X3 hn hn hn (hF.below HB)).mono ?_
  rintro e w5 ⟨g5, rfl, Q, hb⟩
  replace X1 := X1.below hb
  replace X3 := X3.below hb
  replace P := P.below hb
  replace HB := HB.trans (hb.mono HB.size)
  clear hb X2
  go_wp2_with fail
  refine (mul_mat P X3 hn hn hn (hF.below HB)).mono ?_
  rintro e w6 ⟨g6, rfl, L, hb⟩
  replace X1 := X1.below hb
  replace Q := Q.below hb
  replace HB := HB.trans (hb.mono HB.size)
  clear hb X3 P
  go_wp2_with fail
  refine (mul_mat X1 Q hn hn hn (hF.below HB)).mono ?_
  rintro e w7 ⟨g7, rfl, R, hb⟩
  replace X1 := X1.below hb
  replace L := L.below hb
  replace HB := HB.trans (hb.mono HB.size)
  clear hb Q
  go_wp2_with fail
  refine (ident_mat hn').mono ?_
  rintro e w8 ⟨g8, rfl, I, hb⟩
  replace X1 := X1.below hb
  replace L := L.below hb
  replace R := R.below hb
  replace HB := HB.trans (hb.mono HB.size)
  clear hb
  go_wp2_with fail
  refine (mul_mat I X1 hn hn hn (hF.below HB)).mono ?_
  rintro e w9 ⟨g9, rfl, S, hb⟩
  replace X1 := X1.below hb
  replace L := L.below hb
  replace R := R.below hb
  replace HB := HB.trans (hb.mono HB.size)
  clear hb I
  go_wp2_with fail
  refine (same_mat L R (fun i j _ _ => mulM_assoc n n _ _ _ i j) (by omega)).mono ?_
  rintro e w' ⟨rfl, rfl⟩
  go_wp2_with fail
  refine (same_mat S X1 (fun i j hi _ => one_mulM _ hi) (by omega)).mono ?_
  rintro e w' ⟨rfl, rfl⟩
  go_wp2_with fail
  go_ret
  exact ⟨rfl, HB⟩

end Go.Proofs.YtibidlgikecelaaDoor
