/- Contract: the law MatrixInverse. -/
import Derived.Test.YtibidlgikecelaaDoorT11
namespace Go.Proofs.YtibidlgikecelaaDoor
open Go.RowKit
set_option linter.unusedVariables false
set_option linter.unusedSimpArgs false

set_option maxHeartbeats 2000000 in
set_option maxRecDepth 100000 in
theorem matrixInverse_calls {w : World} {A : Option Addr} {na ca : Nat} {la : List B8} {x : Int} (hA : At w A (bys la)) (hna : na = la.length) (hma : la.length ≤ 140737488351232) (hF : FoldAt w) :
    Calls Tryd.prog 10 #[.slice A na ca, .int .i64 x] w (RetV w (.bool true)) := by
  obtain ⟨n, hn1, hn2, hne⟩ := pick_add 1 x 6 (by decide) (by decide) (by decide)
  have HN := Lib.hid hne
  clear hne
  have hnA : n ≤ 6 := by omega
  have hn : 0 < n ∧ n ≤ 255 := by omega
  have hn' : 1 ≤ n ∧ n ≤ 255 := hn
  go_enter Tryd.func10, Tryd.ntmps10
  go_wp2_with fail
  have hne := HN.out
  rw [Int.natCast_one] at hne
  rw [hne]
  clear hne HN
  refine (square_calls hA rfl hma hnA).mono ?_
  rintro e w1 ⟨A1, c1, k1, rfl, hG1, HB⟩
  have X1 := hG1.mat (by omega)
  have HFB := FoldAt.below hF HB
  generalize sqM la n = M at *
  clear hG1
  cases hR : invM n M with
  | none =>
    have HI := Lib.hid (invert_mat (cA := c1) X1 hn HFB)
    rw [hR] at HI
    have HRE := Lib.hid hR
    clear hR
    go_wp2_with fail
    refine HI.out.mono ?_
    rintro e w2 ⟨rfl, hb⟩
    replace X1 := X1.below hb
    replace HB := HB.trans (hb.mono HB.size)
    clear hb HI HFB
    obtain ⟨vX, h1, h2⟩ := X1
    have HR := Lib.hid (rinvert_gen (cA := c1) h1 h2 hn.1 hn.2 (RL := []) (E := 20) (fun _ => ⟨rfl, rfl⟩) (fun R h => by rw [HRE.out] at h; cases h))
    clear h1 h2
    go_wp2_with fail
    refine HR.out.mono ?_
    rintro e w3 ⟨A3, c3, v3, rfl, _, _, hb⟩
    replace HB := HB.trans (hb.mono HB.size)
    clear hb HR
    go_wp2_with fail
    refine (awake_calls (FoldAt.below hF HB)).mono ?_
    rintro e w5 ⟨rfl, hb5⟩
    go_wp2_with fail
    go_ret
    exact ⟨rfl, HB.trans (hb5.mono HB.size)⟩
  | some R =>
    have HI := Lib.hid (invert_mat (cA := c1) X1 hn HFB)
    rw [hR] at HI
    have hI2 := inv_some hR
    obtain ⟨S, hS, hSE⟩ := inv_of_left hI2.r
    have HL := Lib.hid hI2.l
    have HRR := Lib.hid hI2.r
    have HSE := Lib.hid hSE
    have HS := Lib.hid hS
    have HRE := Lib.hid hR
    clear hI2 hS hSE hR
    go_wp2_with fail
    refine HI.out.mono ?_
    rintro e w2 ⟨g2, blk2, rfl, hG2, hb⟩
    have Y := hG2.mat (by omega)
    replace X1 := X1.below hb
    replace HB := HB.trans (hb.mono HB.size)
    clear hb HI HFB hG2
    have X1' := X1
    obtain ⟨vX, h1, h2⟩ := X1'
    have HR := Lib.hid (rinvert_gen (cA := c1) h1 h2 hn.1 hn.2 (RL := rowsL n n R) (E := 0) (fun h => by rw [HRE.out] at h; cases h) (fun R' h => by rw [HRE.out] at h; cases h; exact ⟨rfl, rfl⟩))
    clear h1 h2
    go_wp2_with fail
    refine HR.out.mono ?_
    rintro e w3 ⟨A3, c3, v3, rfl, _, _, hb⟩
    replace X1 := X1.below hb
    replace Y := Y.below hb
    replace HB := HB.trans (hb.mono HB.size)
    clear hb HR
    go_wp2_with fail
    refine (ident_mat hn').mono ?_
    rintro e w4 ⟨g4, rfl, I, hb⟩
    replace X1 := X1.below hb
    replace Y := Y.below hb
    replace HB := HB.trans (hb.mono HB.size)
    clear hb
    go_wp2_with fail
    refine (mul_mat X1 Y hn hn hn (hF.below HB)).mono ?_
    rintro e w5 ⟨g5, rfl, P, hb⟩
    replace X1 := X1.below hb
    replace Y := Y.below hb
    replace I := I.below hb
    replace HB := HB.trans (hb.mono HB.size)
    clear hb
    go_wp2_with fail
    refine (mul_mat Y X1 hn hn hn (hF.below HB)).mono ?_
    rintro e w6 ⟨g6, rfl, Q, hb⟩
    replace X1 := X1.below hb
    replace Y := Y.below hb
    replace I := I.below hb
    replace P := P.below hb
    replace HB := HB.trans (hb.mono HB.size)
    clear hb
    have HI2 := Lib.hid (invert_mat (cA := n) Y hn (hF.below HB))
    rw [HS.out] at HI2
    go_wp2_with fail
    refine HI2.out.mono ?_
    rintro e w7 ⟨g7, blk7, rfl, hG7, hb⟩
    have Z := hG7.mat (by omega)
    replace X1 := X1.below hb
    replace I := I.below hb
    replace P := P.below hb
    replace Q := Q.below hb
    replace HB := HB.trans (hb.mono HB.size)
    clear hb HI2 hG7 Y
    have HS1 := Lib.hid (same_mat (a := n) (b := n) P I HRR.out (by omega))
    have HS2 := Lib.hid (same_mat (a := n) (b := n) Q I HL.out (by omega))
    have HS3 := Lib.hid (same_mat (a := n) (b := c1) Z X1 HSE.out (by omega))
    clear P Q I Z X1
    go_wp2_with fail
    refine HS1.out.mono ?_
    rintro e w' ⟨rfl, rfl⟩
    go_wp2_with fail
    refine HS2.out.mono ?_
    rintro e w' ⟨rfl, rfl⟩
    go_wp2_with fail
    refine HS3.out.mono ?_
    rintro e w' ⟨rfl, rfl⟩
    go_wp2_with fail
    go_ret
    exact ⟨rfl, HB⟩

end Go.Proofs.YtibidlgikecelaaDoor
