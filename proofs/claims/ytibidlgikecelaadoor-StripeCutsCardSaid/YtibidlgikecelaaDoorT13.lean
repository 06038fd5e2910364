/- Contract: the law MatrixTells. -/
import Derived.Test.YtibidlgikecelaaDoorT11
import Derived.Test.YtibidlgikecelaaDoorF3
namespace Go.Proofs.YtibidlgikecelaaDoor
open Go.RowKit
set_option linter.unusedVariables false
set_option linter.unusedSimpArgs false

/-- Rows of one's own are spoilt: nothing else changes. -/
theorem spoil_own {w : World} {B r c cap : Nat} {A : Option Addr} {blk : Nat → Nat} {M : Mx} (h : OwnG w B A cap blk r c M) (hr : r ≤ 1000) (hc : c ≤ 1000) :
    Calls Tryd.prog 37 #[.slice A r cap] w fun e w' => e = .returned (.tuple #[]) ∧ Below B w w' := by
  refine spoil_calls B h.at (by simp) (by simp; omega) (fun v hv => ?_) (fun b off he v hv hb => ?_)
  · obtain ⟨i, hi, rfl⟩ := List.getElem_of_mem hv
    have hi' : i < r := by simpa using hi
    have h1 : (headsV blk r c)[i]? = some (.slice (some ⟨blk i, 0, none⟩) c c) := headsV_get hi'
    rw [List.getElem?_eq_getElem hi] at h1
    rw [Option.some.inj h1]
    exact ⟨c, rowL c (M i), (h.row i hi').own (by simp) (h.geB i hi') (by unfold maxLen; omega)⟩
  · obtain ⟨i, hi, rfl⟩ := List.getElem_of_mem hv
    have hi' : i < r := by simpa using hi
    have h1 : (headsV blk r c)[i]? = some (.slice (some ⟨blk i, 0, none⟩) c c) := headsV_get hi'
    rw [List.getElem?_eq_getElem hi] at h1
    rw [Option.some.inj h1] at hb
    subst he
    have hb' : blk i = b := by injection hb
    exact (h.row i hi').ne_own h.own (by rw [hb']; rfl)
theorem spoil_nil {w : World} : Calls Tryd.prog 37 #[.slice none 0 0] w fun e w' => e = .returned (.tuple #[]) ∧ Below w.heap.size w w' :=
  spoil_calls w.heap.size (At.nil _ _) rfl (by decide) (fun v hv => by cases hv) (fun b off he => by cases he)
theorem OwnT.l {w : World} {B cap : Nat} {A : Option Addr} {vs : List Value} {LL : List (List B8)} (h : OwnT w B A cap vs LL) : LAt w A LL := ⟨vs, h.at, h.texts⟩
theorem RetRw.l {w : World} {LL : List (List B8)} {k : Int} {e : Ending} {w' : World} (h : RetRw w LL k e w') : ∃ A cap, e = .returned (.tuple #[.slice A LL.length cap, .int .i64 k]) ∧ LAt w' A LL ∧ Below w.heap.size w w' ∧
    ∀ w2, Below w'.heap.size w' w2 → Calls Tryd.prog 37 #[.slice A LL.length cap] w2 fun e w3 => e = .returned (.tuple #[]) ∧ Below w.heap.size w2 w3 := by
  rcases h with ⟨⟨h1, h2⟩, rfl, rfl⟩ | ⟨r, c, M, h1, h2, h3, rfl, rfl, g, blk, h4, h5, h6⟩
  · exact ⟨none, 0, h1, ⟨[], At.nil _ _, Texts.nil _⟩, h2, fun w2 hb => (spoil_nil).mono fun e w3 ⟨h, k⟩ => ⟨h, k.mono (Nat.le_trans h2.size hb.size)⟩⟩
  · refine ⟨some ⟨g, 0, none⟩, r, by rw [h4]; simp, ⟨_, h5.at, h5.texts (by omega)⟩, h6, fun w2 hb => ?_⟩
    have := (h5.below hb).ownG (by unfold maxLen; omega)
    rw [length_rowsL]
    exact spoil_own this (by omega) (by omega)

set_option maxHeartbeats 2000000 in
set_option maxRecDepth 100000 in
theorem matrixTells_calls {w : World} {A B Al : Option Addr} {na ca nb cb nl cl : Nat} {vA vB : List Value} {LA LB : List (List B8)} {l : List Int} (hA : At w A vA) (hLA : Texts w vA LA) (hna : na = LA.length) (hma : LA.length ≤ 5864062014634)
    (hB : At w B vB) (hLB : Texts w vB LB) (hnb : nb = LB.length) (hmb : LB.length ≤ 5864062014634) (hl : At w Al (ints l)) (hnl : nl = l.length) (hF : FoldAt w) :
    Calls Tryd.prog 14 #[.slice A na ca, .slice B nb cb, .slice Al nl cl] w (RetV w (.bool true)) := by
  subst hna hnb hnl
  have hAA : LAt w A LA := ⟨_, hA, hLA⟩
  have hBB : LAt w B LB := ⟨_, hB, hLB⟩
  have HT1 := Lib.hid (texts_calls (c := ca) hA hLA rfl hma)
  have HT2 := Lib.hid (fun (w1 : World) (hb : Below w.heap.size w w1) => texts_calls (c := cb) (hB.below hb) (hLB.below hb) rfl hmb)
  have HMA := Lib.hid hma
  have HMB := Lib.hid hmb
  have HML := Lib.hid (mulL_len LA LB)
  have HIL := Lib.hid (invL_len LA)
  have HRL := Lib.hid (rwsL_len LA l)
  have HLL := Lib.hid hl
  have HFF := Lib.hid hF
  clear hA hLA hB hLB hma hmb hl hF
  go_enter Tryd.func14, Tryd.ntmps14
  go_wp2_with fail
  refine HT1.out.mono ?_
  rintro e w1 ⟨A1, c1, x1, rfl, hO1, HB⟩
  have X := hO1.l
  clear hO1 HT1
  go_wp2_with fail
  refine (HT2.out w1 HB).mono ?_
  rintro e w2 ⟨A2, c2, x2, rfl, hO2, hb⟩
  have Y := hO2.l
  replace X := X.below hb
  replace HB := HB.trans (hb.mono HB.size)
  clear hO2 HT2 hb
  have HM := Lib.hid (mul_x (cA := c1) (cB := c2) X Y rfl rfl (HFF.out.below HB))
  have HM2 := Lib.hid (fun (w3 : World) (hb : Below w.heap.size w w3) => rmul_x (cA := ca) (cB := cb) (hAA.below hb) (hBB.below hb) rfl rfl)
  generalize mulL LA LB = PL at *
  generalize mulE LA LB = PE at *
  go_wp2_with fail
  refine HM.out.mono ?_
  rintro e w3 ⟨A3, c3, rfl, P, hb⟩
  replace X := X.below hb
  replace Y := Y.below hb
  replace HB := HB.trans (hb.mono HB.size)
  clear HM hb
  go_wp2_with fail
  refine (HM2.out w3 HB).mono ?_
  rintro e w4 ⟨A4, c4, rfl, Q, hb⟩
  have HS := Lib.hid (same_ll (a := c3) (b := c4) (P.below hb) Q (Nat.le_trans HML.out (by decide)))
  have hpe : (PE != PE) = false := by simp
  replace X := X.below hb
  replace Y := Y.below hb
  replace HB := HB.trans (hb.mono HB.size)
  clear HM2 hb P Q
  go_wp2_with fail
  refine HS.out.mono ?_
  rintro e w' ⟨rfl, rfl⟩
  clear HS hpe HML
  have HI := Lib.hid (inv_x (cA := c1) X rfl (HFF.out.below HB))
  have HI2 := Lib.hid (fun (w3 : World) (hb : Below w.heap.size w w3) => rinv_x (cA := ca) (hAA.below hb) rfl)
  generalize invL LA = PL at *
  generalize invE LA = PE at *
  go_wp2_with fail
  refine HI.out.mono ?_
  rintro e w5 ⟨A5, c5, rfl, P, hb⟩
  replace X := X.below hb
  replace Y := Y.below hb
  replace HB := HB.trans (hb.mono HB.size)
  clear HI hb
  go_wp2_with fail
  refine (HI2.out w5 HB).mono ?_
  rintro e w6 ⟨A6, c6, rfl, Q, hb⟩
  have HS := Lib.hid (same_ll (a := c5) (b := c6) (P.below hb) Q (Nat.le_trans HIL.out (by decide)))
  have hpe : (PE != PE) = false := by simp
  replace X := X.below hb
  replace Y := Y.below hb
  replace HB := HB.trans (hb.mono HB.size)
  clear HI2 hb P Q
  go_wp2_with fail
  refine HS.out.mono ?_
  rintro e w' ⟨rfl, rfl⟩
  clear HS hpe HIL
  have HI := Lib.hid (rows_x (cA := c1) (cl := cl) X (HLL.out.below HB) rfl rfl)
  have HI2 := Lib.hid (fun (w3 : World) (hb : Below w.heap.size w w3) => rrows_x (cA := ca) (cl := cl) (hAA.below hb) (HLL.out.below hb) rfl rfl)
  generalize rwsL LA l = PL at *
  generalize rwsE LA l = PE at *
  go_wp2_with fail
  refine HI.out.mono ?_
  intro e w7 hr
  obtain ⟨A7, c7, rfl, P, hb, hsp⟩ := hr.l
  clear hr
  have X6 := X
  have Y6 := Y
  have HB6 := HB
  have HSP := Lib.hid hsp
  replace X := X.below hb
  replace Y := Y.below hb
  replace HB := HB.trans (hb.mono HB.size)
  have hz6 := hb.size
  clear HI hsp
  go_wp2_with fail
  refine (HI2.out w7 HB).mono ?_
  rintro e w8 ⟨A8, c8, rfl, Q, hb8⟩
  have HS := Lib.hid (same_ll (a := c7) (b := c8) (P.below hb8) Q (Nat.le_trans HRL.out (by decide)))
  have hpe : (PE != PE) = false := by simp
  have HSP2 := Lib.hid (HSP.out w8 hb8)
  replace X := X.below hb8
  replace Y := Y.below hb8
  replace HB := HB.trans (hb8.mono HB.size)
  have hX6 : Below w6.heap.size w6 w8 := hb.trans (hb8.mono hb.size)
  clear HI2 P Q HSP
  go_wp2_with fail
  refine HS.out.mono ?_
  rintro e w' ⟨rfl, rfl⟩
  clear HS hpe HRL
  clear X Y HB hb hb8
  go_wp2_with fail
  refine HSP2.out.mono ?_
  rintro e w9 ⟨rfl, hb9⟩
  have hb69 : Below w6.heap.size w6 w9 := hX6.trans hb9
  have X9 := X6.below hb69
  have Y9 := Y6.below hb69
  have HB9 : Below w.heap.size w w9 := HB6.trans (hb69.mono HB6.size)
  have HS1 := Lib.hid (same_ll (a := c1) (b := ca) X9 (hAA.below HB9) HMA.out)
  have HS2 := Lib.hid (same_ll (a := c2) (b := cb) Y9 (hBB.below HB9) HMB.out)
  clear HSP2 X9 Y9 X6 Y6 hb69 hb9 hX6 HB6
  go_wp2_with fail
  refine HS1.out.mono ?_
  rintro e w' ⟨rfl, rfl⟩
  go_wp2_with fail
  refine HS2.out.mono ?_
  rintro e w' ⟨rfl, rfl⟩
  go_wp2_with fail
  refine (awake_calls (FoldAt.below HFF.out HB9)).mono ?_
  rintro e w10 ⟨rfl, hb10⟩
  go_wp2_with fail
  go_ret
  exact ⟨rfl, HB9.trans (hb10.mono HB9.size)⟩

end Go.Proofs.YtibidlgikecelaaDoor
