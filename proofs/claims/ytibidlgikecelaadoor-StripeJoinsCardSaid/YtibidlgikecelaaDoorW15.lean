/- Contract: the law MatrixPicks. -/
import Derived.Test.YtibidlgikecelaaDoorW14
import Derived.Test.YtibidlgikecelaaDoorWC
namespace Go.Proofs.YtibidlgikecelaaDoor
open Go.RowKit
set_option linter.unusedVariables false
set_option linter.unusedSimpArgs false

theorem rows_mat {w : World} {A Al : Option Addr} {r c m cA cl : Nat} {M : Mx} {l : List Int} (hA : MatAt w A r c M) (hl : At w Al (ints l)) (hm : m = l.length)
    (hr : 0 < r ∧ r ≤ 255) (hc : 0 < c ∧ c ≤ 255) (hl1 : 0 < l.length ∧ l.length ≤ 255) (hin : ∀ y, y ∈ l → 0 ≤ y ∧ y < (r : Int)) :
    Calls Tryd.prog 28 #[.slice A r cA, .slice Al m cl] w fun e w' => ∃ g, e = .returned (.tuple #[.slice (some ⟨g, 0, none⟩) m m, .int .i64 0]) ∧ MatAt w' (some ⟨g, 0, none⟩) m c (pickM l M) ∧ Below w.heap.size w w' := by
  obtain ⟨vA, hA1, hA2⟩ := hA
  refine (rows_calls hA1 hA2 hl hm hr.1 hr.2 hc.1 hc.2 hl1.1 hl1.2 hin).mono ?_
  rintro e w' ⟨g, blk, rfl, hG, hb⟩
  exact ⟨g, rfl, hG.mat (by omega), hb⟩

/-- A number that is cut to a place. -/
def placeOf (n : Nat) (x : Int) : Int := x % 18446744073709551616 % (n : Int)
theorem placeOf_in {n : Nat} (hn : 0 < n) (x : Int) : 0 ≤ placeOf n x ∧ placeOf n x < (n : Int) := by
  unfold placeOf
  exact ⟨Int.emod_nonneg _ (by omega), Int.emod_lt_of_pos _ (by omega)⟩
theorem place_wrap {n : Nat} (hn : 0 < n) (hn2 : n ≤ 1000) (x : Int) : wrap64 ((IntKind.u64.wrap x).tmod (n : Int)) = placeOf n x := by
  have h0 := wrap_u64_nonneg x
  have h1 := placeOf_in hn x
  rw [Int.tmod_eq_emod_of_nonneg h0, IntKind.wrap_u64]
  exact IntWalk.wrap64_in _ (by unfold placeOf at h1; omega)
/-- The picked rows so far. -/
def picksL (n : Nat) (l : List Int) (j : Nat) : List Int := 0 :: (l.take j).map (placeOf n)
theorem picksL_zero (n : Nat) (l : List Int) : picksL n l 0 = [0] := by simp [picksL]
theorem picksL_step {n j : Nat} {l : List Int} {x : Int} (h : l[j]? = some x) : picksL n l j ++ [placeOf n x] = picksL n l (j + 1) := by
  unfold picksL
  obtain ⟨hj, he⟩ := List.getElem?_eq_some_iff.1 h
  rw [List.take_succ_eq_append_getElem hj, he]
  simp
theorem length_picksL {n j : Nat} {l : List Int} (h : j ≤ l.length) : (picksL n l j).length = j + 1 := by simp [picksL]; omega
theorem picksL_in {n j : Nat} {l : List Int} (hn : 0 < n) : ∀ y, y ∈ picksL n l j → 0 ≤ y ∧ y < (n : Int) := by
  intro y hy
  rcases List.mem_cons.1 hy with rfl | hy
  · omega
  · obtain ⟨x, _, rfl⟩ := List.mem_map.1 hy
    exact placeOf_in hn x

/-- Rows of ones, times a matrix, are its rows. -/
theorem pick_one {n r c : Nat} {L : List Int} {X : Mx} (h : ∀ y, y ∈ L → 0 ≤ y ∧ y < (n : Int)) (hr : r = L.length) : EqM r c (mulM n (pickM L oneM) X) (pickM L X) := by
  intro i j hi hj
  subst hr
  have hL : L.getD i 0 ∈ L := by
    rw [List.getD_eq_getElem?_getD, List.getElem?_eq_getElem hi]
    exact List.getElem_mem hi
  have h1 := h _ hL
  exact one_mulM (n := n) X (i := (L.getD i 0).toNat) (j := j) (by omega)

set_option maxHeartbeats 800000 in
set_option maxRecDepth 100000 in
theorem picks_le {w : World} {A Al : Option Addr} {na ca nl cl : Nat} {la : List B8} {x : Int} {l : List Int} (hA : At w A (bys la)) (hna : na = la.length) (hma : la.length ≤ 140737488351232)
    (hl : At w Al (ints l)) (hnl : nl = l.length) (hlc : l.length ≤ cl) (hml : l.length ≤ 140737488351232) (hF : FoldAt w) (hq : l.length ≤ 20) :
    Calls Tryd.prog 5 #[.slice A na ca, .int .i64 x, .slice Al nl cl] w (RetV w (.bool true)) := by
  obtain ⟨n, hn1, hn2, hne⟩ := pick_add 1 x 6 (by decide) (by decide) (by decide)
  have HN := Lib.hid hne
  clear hne
  have hnA : n ≤ 6 := by omega
  have hn : 0 < n ∧ n ≤ 255 := by omega
  have hn' : 1 ≤ n ∧ n ≤ 255 := hn
  have hqi : (l.length : Int) ≤ 20 := by omega
  go_enter Tryd.func5, Tryd.ntmps5
  go_wp2_with fail
  have hne := HN.out
  rw [Int.natCast_one] at hne
  rw [hne]
  clear hne HN
  refine (square_calls hA rfl hma hnA).mono ?_
  rintro e w1 ⟨A1, c1, k1, rfl, hG1, HB⟩
  have X1 := hG1.mat (by omega)
  clear hG1
  have hlw := hl.below HB
  go_wp2_with fail
  have hb1 := below1' w1 (.cells #[.int .i64 0] 3)
  have hlit := World.ownsRow_lit (base := w1.heap.size) (e := 3) (size := 1) w1 #[.int .i64 0] 1 (Nat.le_refl _) (by decide) rfl
  go_loopw [8, 34] (fun s8 s wr => ∃ (j : Nat) (A' : Option Addr) (c' : Nat), j ≤ l.length ∧ s = .int .i64 ((j : Nat) : Int) ∧ s8 = .slice A' (j + 1) c' ∧ wr.ownsRow w1.heap.size 3 1 (.slice A' (j + 1) c') (j + 1) (ints (picksL n l j)) ∧ Below w1.heap.size w1 wr) (fun _ s _ => l.length - (intOf s).toNat)
  case atStart => exact ⟨0, some ⟨w1.heap.size, 0, none⟩, 1, by omega, rfl, rfl, by rw [picksL_zero]; exact hlit, hb1⟩
  case round =>
    obtain ⟨j, A', c', hj, rfl, rfl, ho, hb⟩ := hrel
    by_cases hjl : j < l.length
    · have hji : (j : Int) < ((l.length : Nat) : Int) := by omega
      have hji2 : (j : Int) < l.length := by omega
      have hjl2 : j < l.length := by omega
      obtain ⟨bl, ol, rfl, hc⟩ := (hlw.below hb).int hjl2
      have hx : l[j]? = some l[j] := List.getElem?_eq_getElem hjl2
      generalize l[j] = y at *
      have HS := Lib.hid (picksL_step (n := n) hx)
      have HP := Lib.hid (place_wrap hn.1 (by omega) y)
      clear hx
      have hnw : IntKind.u64.wrap (n : Int) = (n : Int) := by rw [IntKind.wrap_u64]; omega
      have ho2 := own_below ho (below1' wr (.cells #[.int .i64 (placeOf n y)] 3))
      go_wp2_with (at_builtin; rw [HP.out]; refine app_ints rfl (.tmp 38) (.tmp 45) rfl w1.heap.size rfl ho2 rfl (news := [placeOf n y]) rfl (by exact at_new _ _ _ _) (by simp) (by omega) (by have := hb.size; simp; omega) ?_; intro A4 c4 w4 ho4 hb4 hg4 hc4)
      rw [HS.out] at ho4
      exact ⟨⟨j + 1, A4, c4, by omega, by go_num, rfl, ho4, (hb.trans ((below1' _ _).mono hb.size)).trans hb4⟩, by simp [intOf]; omega⟩
    · obtain rfl : j = l.length := by omega
      have HBr := HB.trans (hb.mono HB.size)
      have X := X1.below hb
      have hAl := own_at ho
      have hlen := length_picksL (n := n) (l := l) (j := l.length) (by omega)
      have hlen2 : 0 < (picksL n l l.length).length ∧ (picksL n l l.length).length ≤ 255 := by omega
      have hpin := picksL_in (n := n) (j := l.length) (l := l) hn.1
      generalize picksL n l l.length = L at *
      have HLEN := Lib.hid hlen
      clear hlen ho hlw hl X1
      go_wp2_with fail
      refine (ident_mat hn').mono ?_
      rintro e w3 ⟨g3, rfl, I, hb3⟩
      replace X := X.below hb3
      replace hAl := hAl.below hb3
      replace HBr := HBr.trans (hb3.mono HBr.size)
      clear hb3
      go_wp2_with fail
      refine (rows_mat I hAl (by rw [HLEN.out]) hn hn hlen2 hpin).mono ?_
      rintro e w4 ⟨g4, rfl, R, hb4⟩
      replace X := X.below hb4
      replace hAl := hAl.below hb4
      replace HBr := HBr.trans (hb4.mono HBr.size)
      clear hb4 I
      go_wp2_with fail
      refine (mul_mat R X (by constructor <;> omega) hn hn (hF.below HBr)).mono ?_
      rintro e w5 ⟨g5, rfl, P, hb5⟩
      replace X := X.below hb5
      replace hAl := hAl.below hb5
      replace HBr := HBr.trans (hb5.mono HBr.size)
      clear hb5 R
      go_wp2_with fail
      refine (rows_mat X hAl (by rw [HLEN.out]) hn hn hlen2 hpin).mono ?_
      rintro e w6 ⟨g6, rfl, S, hb6⟩
      replace P := P.below hb6
      replace HBr := HBr.trans (hb6.mono HBr.size)
      clear hb6
      go_wp2_with fail
      refine (same_mat P S (pick_one hpin (by rw [HLEN.out])) (by omega)).mono ?_
      rintro e w' ⟨rfl, rfl⟩
      go_wp2_with fail
      go_ret
      exact ⟨rfl, HBr⟩
set_option maxHeartbeats 800000 in
set_option maxRecDepth 100000 in
theorem picks_gt {w : World} {A Al : Option Addr} {na ca nl cl : Nat} {la : List B8} {x : Int} {l : List Int} (hA : At w A (bys la)) (hna : na = la.length) (hma : la.length ≤ 140737488351232)
    (hl : At w Al (ints l)) (hnl : nl = l.length) (hlc : l.length ≤ cl) (hml : l.length ≤ 140737488351232) (hF : FoldAt w) (hq : 20 < l.length) :
    Calls Tryd.prog 5 #[.slice A na ca, .int .i64 x, .slice Al nl cl] w (RetV w (.bool true)) := by
  obtain ⟨n, hn1, hn2, hne⟩ := pick_add 1 x 6 (by decide) (by decide) (by decide)
  have HN := Lib.hid hne
  clear hne
  have hnA : n ≤ 6 := by omega
  have hn : 0 < n ∧ n ≤ 255 := by omega
  have hn' : 1 ≤ n ∧ n ≤ 255 := hn
  have hqi : (20 : Int) < (l.length : Int) := by omega
  have hqi2 : ¬ (l.length : Int) ≤ 20 := by omega
  go_enter Tryd.func5, Tryd.ntmps5
  go_wp2_with fail
  have hne := HN.out
  rw [Int.natCast_one] at hne
  rw [hne]
  clear hne HN
  refine (square_calls hA rfl hma hnA).mono ?_
  rintro e w1 ⟨A1, c1, k1, rfl, hG1, HB⟩
  have X1 := hG1.mat (by omega)
  clear hG1
  have hlw := hl.below HB
  go_wp2_with fail
  have hb1 := below1' w1 (.cells #[.int .i64 0] 3)
  have hlit := World.ownsRow_lit (base := w1.heap.size) (e := 3) (size := 1) w1 #[.int .i64 0] 1 (Nat.le_refl _) (by decide) rfl
  go_loopw [8, 34] (fun s8 s wr => ∃ (j : Nat) (A' : Option Addr) (c' : Nat), j ≤ 20 ∧ s = .int .i64 ((j : Nat) : Int) ∧ s8 = .slice A' (j + 1) c' ∧ wr.ownsRow w1.heap.size 3 1 (.slice A' (j + 1) c') (j + 1) (ints (picksL n l j)) ∧ Below w1.heap.size w1 wr) (fun _ s _ => 20 - (intOf s).toNat)
  case atStart => exact ⟨0, some ⟨w1.heap.size, 0, none⟩, 1, by omega, rfl, rfl, by rw [picksL_zero]; exact hlit, hb1⟩
  case round =>
    obtain ⟨j, A', c', hj, rfl, rfl, ho, hb⟩ := hrel
    by_cases hjl : j < 20
    · have hji : (j : Int) < ((20 : Nat) : Int) := by omega
      have hji2 : (j : Int) < 20 := by omega
      have hjl2 : j < l.length := by omega
      obtain ⟨bl, ol, rfl, hc⟩ := (hlw.below hb).int hjl2
      have hx : l[j]? = some l[j] := List.getElem?_eq_getElem hjl2
      generalize l[j] = y at *
      have HS := Lib.hid (picksL_step (n := n) hx)
      have HP := Lib.hid (place_wrap hn.1 (by omega) y)
      clear hx
      have hnw : IntKind.u64.wrap (n : Int) = (n : Int) := by rw [IntKind.wrap_u64]; omega
      have ho2 := own_below ho (below1' wr (.cells #[.int .i64 (placeOf n y)] 3))
      go_wp2_with (at_builtin; rw [HP.out]; refine app_ints rfl (.tmp 38) (.tmp 45) rfl w1.heap.size rfl ho2 rfl (news := [placeOf n y]) rfl (by exact at_new _ _ _ _) (by simp) (by omega) (by have := hb.size; simp; omega) ?_; intro A4 c4 w4 ho4 hb4 hg4 hc4)
      rw [HS.out] at ho4
      exact ⟨⟨j + 1, A4, c4, by omega, by go_num, rfl, ho4, (hb.trans ((below1' _ _).mono hb.size)).trans hb4⟩, by simp [intOf]; omega⟩
    · obtain rfl : j = 20 := by omega
      have HBr := HB.trans (hb.mono HB.size)
      have X := X1.below hb
      have hAl := own_at ho
      have hlen := length_picksL (n := n) (l := l) (j := 20) (by omega)
      have hlen2 : 0 < (picksL n l 20).length ∧ (picksL n l 20).length ≤ 255 := by omega
      have hpin := picksL_in (n := n) (j := 20) (l := l) hn.1
      generalize picksL n l 20 = L at *
      have HLEN := Lib.hid hlen
      clear hlen ho hlw hl X1
      go_wp2_with fail
      refine (ident_mat hn').mono ?_
      rintro e w3 ⟨g3, rfl, I, hb3⟩
      replace X := X.below hb3
      replace hAl := hAl.below hb3
      replace HBr := HBr.trans (hb3.mono HBr.size)
      clear hb3
      go_wp2_with fail
      refine (rows_mat I hAl (by rw [HLEN.out]) hn hn hlen2 hpin).mono ?_
      rintro e w4 ⟨g4, rfl, R, hb4⟩
      replace X := X.below hb4
      replace hAl := hAl.below hb4
      replace HBr := HBr.trans (hb4.mono HBr.size)
      clear hb4 I
      go_wp2_with fail
      refine (mul_mat R X (by constructor <;> omega) hn hn (hF.below HBr)).mono ?_
      rintro e w5 ⟨g5, rfl, P, hb5⟩
      replace X := X.below hb5
      replace hAl := hAl.below hb5
      replace HBr := HBr.trans (hb5.mono HBr.size)
      clear hb5 R
      go_wp2_with fail
      refine (rows_mat X hAl (by rw [HLEN.out]) hn hn hlen2 hpin).mono ?_
      rintro e w6 ⟨g6, rfl, S, hb6⟩
      replace P := P.below hb6
      replace HBr := HBr.trans (hb6.mono HBr.size)
      clear hb6
      go_wp2_with fail
      refine (same_mat P S (pick_one hpin (by rw [HLEN.out])) (by omega)).mono ?_
      rintro e w' ⟨rfl, rfl⟩
      go_wp2_with fail
      go_ret
      exact ⟨rfl, HBr⟩

theorem matrixPicks_calls {w : World} {A Al : Option Addr} {na ca nl cl : Nat} {la : List B8} {x : Int} {l : List Int} (hA : At w A (bys la)) (hna : na = la.length) (hma : la.length ≤ 140737488351232)
    (hl : At w Al (ints l)) (hnl : nl = l.length) (hlc : l.length ≤ cl) (hml : l.length ≤ 140737488351232) (hF : FoldAt w) :
    Calls Tryd.prog 5 #[.slice A na ca, .int .i64 x, .slice Al nl cl] w (RetV w (.bool true)) := by
  rcases Nat.lt_or_ge 20 l.length with h | h
  · exact picks_gt hA hna hma hl hnl hlc hml hF h
  · exact picks_le hA hna hma hl hnl hlc hml hF h

end Go.Proofs.YtibidlgikecelaaDoor
