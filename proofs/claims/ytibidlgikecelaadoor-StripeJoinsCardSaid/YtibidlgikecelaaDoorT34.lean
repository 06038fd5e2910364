/- Contract: the law StripeJoins. -/
import Derived.Test.YtibidlgikecelaaDoorT33
namespace Go.Proofs.YtibidlgikecelaaDoor
open Go.RowKit
set_option linter.unusedVariables false
set_option linter.unusedSimpArgs false

set_option maxHeartbeats 2000000 in
set_option maxRecDepth 100000 in
theorem stripeJoins_calls {w : World} {K M s : Int} {A : Option Addr} {n c : Nat} {vs : List Value} {LL : List (List B8)} (hA : At w A vs) (hT : Texts w vs LL) (hn : n = LL.length) (hmax : n ≤ 5864062014634) (hF : FoldAt w) :
    Calls Tryd.prog 21 #[.agg #[.int .i64 K, .int .i64 M], .int .i64 s, .slice A n c] w (RetV w (.bool true)) := by
  subst hn
  have HL : Hid (LAt w A LL) := ⟨vs, hA, hT⟩
  have HFF := Lib.hid hF
  have HM := Lib.hid hmax
  clear hA hT hF hmax
  go_enter Tryd.func21, Tryd.ntmps21
  by_cases h1 : 40 < K
  rotate_left
  by_cases h2 : 40 < M
  all_goals go_wp2_with fail
  all_goals first
    | (have _ := (h1 : 40 < K)
       clear h1
       generalize K % 40 = Kx at *
       generalize M.tmod 40 = Mx at *)
    | (have _ := (h2 : 40 < M)
       clear h1 h2
       generalize K.tmod 40 = Kx at *
       generalize M % 40 = Mx at *)
    | (clear h1 h2
       generalize K = Kx at *
       generalize M = Mx at *)
  all_goals
    obtain ⟨w2, hw2, HBx, k0, k1, _⟩ := code_box w Kx Mx
    rw [← hw2]
    clear hw2
    have HTX := Lib.hid ((HL.out.below HBx).elim fun vs h => texts_calls (c := c) h.1 h.2 rfl HM.out)
    refine HTX.out.mono ?_
    rintro e w3 ⟨A3, c3, x3, rfl, hO3, hb⟩
    have Y : LAt w3 A3 LL := ⟨_, hO3.at, hO3.texts⟩
    have HB3 := HBx.trans (hb.mono HBx.size)
    replace k0 := (hb.cell (p := ⟨w.heap.size, 0, none⟩) (block_lt k0)).trans k0
    replace k1 := (hb.cell (p := ⟨w.heap.size, 1, none⟩) (block_lt k1)).trans k1
    clear hO3 HTX hb HBx
    have HJ := Lib.hid (join_x (K := Kx) (M := Mx) (s := s) (cS := c3) Y rfl HM.out (HFF.out.below HB3))
    have HR := Lib.hid (fun (w4 : World) (hb : Below w3.heap.size w3 w4) => rjoin_x (K := Kx) (M := Mx) (s := s) (cS := c) ((HL.out.below HB3).below hb) rfl)
    generalize joinL Kx Mx s LL = P at *
    generalize joinE Kx Mx s LL = E at *
    go_wp2_with fail
    refine HJ.out.mono ?_
    rintro e w4 ⟨A4, c4, rfl, Z, hb⟩
    replace k0 := (hb.cell (p := ⟨w.heap.size, 0, none⟩) (block_lt k0)).trans k0
    replace k1 := (hb.cell (p := ⟨w.heap.size, 1, none⟩) (block_lt k1)).trans k1
    have h34 := hb
    clear HJ hb
    go_wp2_with fail
    refine (HR.out w4 h34).mono ?_
    rintro e w5 ⟨A5, c5, rfl, Q, hb⟩
    have hee : (E == E) = true := by simp
    have h35 := h34.trans (hb.mono h34.size)
    have HEQ := Lib.hid (equal_calls (c := c4) (d := c5) (Z.below hb) Q rfl rfl)
    rw [decide_eq_true (rfl : P = P)] at HEQ
    have HB5 := HB3.trans (h35.mono HB3.size)
    have HS := Lib.hid (same_ll (a := c3) (b := c) (Y.below h35) (HL.out.below HB5) HM.out)
    clear HR k0 k1 h34 hb Y Z Q HB3
    go_wp2_with fail
    refine HEQ.out.mono ?_
    rintro e w' ⟨rfl, rfl⟩
    go_wp2_with fail
    refine HS.out.mono ?_
    rintro e w' ⟨rfl, rfl⟩
    go_wp2_with fail
    refine (length_x 2 0 20).mono ?_
    rintro e w9 ⟨rfl, h89⟩
    have hl16 : lenZ 2 0 20 = 16 := by decide
    rw [hl16]
    go_wp2_with fail
    go_ret
    exact ⟨rfl, HB5.trans (h89.mono HB5.size)⟩

end Go.Proofs.YtibidlgikecelaaDoor
