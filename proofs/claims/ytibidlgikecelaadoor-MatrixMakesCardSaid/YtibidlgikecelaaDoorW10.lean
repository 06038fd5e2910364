/- Contracts: matrix.Identity, matrix.Rows. -/
import Derived.Test.YtibidlgikecelaaDoorW9
import Derived.Test.YtibidlgikecelaaDoorJ
namespace Go.Proofs.YtibidlgikecelaaDoor
open Go.RowKit
set_option linter.unusedVariables false
set_option linter.unusedSimpArgs false

theorem Grid.put {w : World} {B g r c : Nat} {blk : Nat → Nat} {M : Mx} (h : Grid w B g blk r c M) {i : Nat} (hi : i < r) (j : Nat) (x : B8) :
    Grid (w.setCell ⟨blk i, j, none⟩ (bv x)) B g blk r c (putR M i (fun k => if k = j then x else M i k)) :=
  h.setRow hi (grown_set _ _ _ _) (by rw [← rowL_set]; exact (h.row i hi).set j x)
theorem Grid.put_below {w w0 : World} {B g r c : Nat} {blk : Nat → Nat} {M : Mx} (h : Grid w B g blk r c M) {i : Nat} (hi : i < r) (j : Nat) (x : Value) (hb : Below B w0 w) : Below B w0 (w.setCell ⟨blk i, j, none⟩ x) :=
  hb.setCell (h.geB i hi) _
/-- A row is copied. -/
theorem Grid.copy {w w' : World} {B g r c : Nat} {blk : Nat → Nat} {M : Mx} (h : Grid w B g blk r c M) {i : Nat} (hi : i < r) {f : Nat → B8} (hg : w.grownBy w' (some (blk i)))
    (hr : RowB w' (blk i) ((rowL c (M i)).take 0 ++ (rowL c f ++ (rowL c (M i)).drop (0 + (rowL c f).length)))) : Grid w' B g blk r c (putR M i f) :=
  h.setRow hi hg (by rwa [over_full (by simp)] at hr)

set_option maxHeartbeats 400000 in
set_option maxRecDepth 100000 in
theorem ident_calls {w : World} {n : Nat} (hn : 1 ≤ n) (hn2 : n ≤ 255) : Calls Tryd.prog 25 #[.int .i64 (n : Int)] w (RetM w n n oneM) := by
  have hb1 : decide ((n : Int) < (1 : Int)) = false := decide_eq_false (by omega)
  have hb2 : decide ((255 : Int) < (n : Int)) = false := decide_eq_false (by omega)
  go_enter Tryd.func25, Tryd.ntmps25
  go_wp2_with fail
  refine (grid_calls (r := n) (c := n) (by omega) (by omega)).mono ?_
  rintro e w1 ⟨g, blk, rfl, hG, hb⟩
  go_wp2_with fail
  go_loopw [17] (fun s wr => ∃ i : Nat, i ≤ n ∧ s = .int .i64 ((i : Nat) : Int) ∧ Grid wr w.heap.size g blk n n (oneAt i) ∧ Below w.heap.size w wr) (fun s _ => n - (intOf s).toNat)
  case atStart => exact ⟨0, by omega, rfl, by rw [oneAt_start]; exact hG, hb⟩
  case round =>
    obtain ⟨i, hi, rfl, hGr, hBr⟩ := hrel
    clear hG hb
    by_cases hin : i < n
    · have hii : (i : Int) < (n : Int) := by omega
      have hcg := hGr.cell hin
      have hcb := (hGr.row i hin).cell (rowL_get (f := oneAt i i) hin)
      have hfz := (hGr.row i hin).frozen i
      have hS := Lib.hid (oneAt_step i)
      go_wp2_with fail
      have hG2 := hGr.put hin i 1#8
      rw [hS.out] at hG2
      exact ⟨⟨i + 1, by omega, by go_num, hG2, hGr.put_below hin i _ hBr⟩, by simp [intOf]; omega⟩
    · obtain rfl : i = n := by omega
      go_wp2_with fail
      go_ret2
      exact ⟨g, blk, rfl, hGr.congr (oneAt_end _ _), hBr⟩

theorem ident_bad {w : World} {n : Int} (h : n < 1 ∨ 255 < n) : Calls Tryd.prog 25 #[.int .i64 n] w (RetE w 1) := by
  by_cases h1 : n < 1
  · have hb1 : decide (n < (1 : Int)) = true := decide_eq_true h1
    go_enter Tryd.func25, Tryd.ntmps25
    go_wp2_with fail
    go_ret2
    exact ⟨rfl, Below.refl _ _⟩
  · have hb1 : decide (n < (1 : Int)) = false := decide_eq_false h1
    have hb2 : decide ((255 : Int) < n) = true := decide_eq_true (by omega)
    go_enter Tryd.func25, Tryd.ntmps25
    go_wp2_with fail
    go_ret2
    exact ⟨rfl, Below.refl _ _⟩

/-- The first number that is no row's, and -1 where there is none. -/
def wrongIx (n : Nat) (l : List Int) : Int := match l.findIdx? fun x => decide (x < 0 ∨ (n : Int) ≤ x) with | some k => (k : Int) | none => -1
theorem wrong_at {n j : Nat} {l : List Int} {x : Int} (hl : l[j]? = some x) (hx : x < 0 ∨ (n : Int) ≤ x) (h : ∀ (i : Nat) (y : Int), i < j → l[i]? = some y → ¬ (y < 0 ∨ (n : Int) ≤ y)) : wrongIx n l = (j : Int) := by
  unfold wrongIx
  have : l.findIdx? (fun x => decide (x < 0 ∨ (n : Int) ≤ x)) = some j := by
    rw [List.findIdx?_eq_some_iff_getElem]
    obtain ⟨hj, he⟩ := List.getElem?_eq_some_iff.1 hl
    refine ⟨hj, by rw [he]; exact decide_eq_true hx, fun i hi => ?_⟩
    have := h i _ hi (List.getElem?_eq_getElem (by omega))
    simp only [decide_eq_false this]
    decide
  rw [this]
theorem wrong_no {n : Nat} {l : List Int} (h : ∀ (i : Nat) (y : Int), i < l.length → l[i]? = some y → ¬ (y < 0 ∨ (n : Int) ≤ y)) : wrongIx n l = -1 := by
  unfold wrongIx
  have : l.findIdx? (fun x => decide (x < 0 ∨ (n : Int) ≤ x)) = none := by
    rw [List.findIdx?_eq_none_iff]
    intro r hr
    obtain ⟨i, hi, rfl⟩ := List.getElem_of_mem hr
    exact decide_eq_false (h i _ hi (List.getElem?_eq_getElem hi))
  rw [this]
theorem wrong_all {n : Nat} {l : List Int} (h : ∀ y, y ∈ l → 0 ≤ y ∧ y < (n : Int)) : wrongIx n l = -1 :=
  wrong_no fun i y _ hy => by have := h y (List.mem_of_getElem? hy); omega

set_option maxHeartbeats 400000 in
theorem rs1_calls {w : World} {gb n c : Nat} {A : Option Addr} {x : Int} (hg : w.cell? ⟨gb, 0, none⟩ = some (.slice A n c)) :
    Calls Tryd.prog 67 #[.int .i64 x, .pointer (some ⟨gb, 0, none⟩)] w fun e w' => e = .returned (.bool (decide (x < 0 ∨ (n : Int) ≤ x))) ∧ w = w' := by
  by_cases h1 : x < 0
  · have hb1 : decide (x < (0 : Int)) = true := decide_eq_true h1
    rw [decide_eq_true (Or.inl h1)]
    go_enter Tryd.func67, Tryd.ntmps67
    go_wp2_with fail
    go_ret
    exact ⟨rfl, rfl⟩
  · have hb1 : decide (x < (0 : Int)) = false := decide_eq_false h1
    have hd : decide (x < 0 ∨ (n : Int) ≤ x) = decide ((n : Int) ≤ x) := by
      by_cases h2 : (n : Int) ≤ x
      · rw [decide_eq_true h2, decide_eq_true (Or.inr h2)]
      · rw [decide_eq_false h2, decide_eq_false (by omega)]
    rw [hd]
    clear hd
    go_enter Tryd.func67, Tryd.ntmps67
    go_wp2_with fail
    go_ret
    exact ⟨rfl, rfl⟩

set_option maxHeartbeats 400000 in
set_option maxRecDepth 100000 in
theorem ridx_calls {w : World} {gb n c m cl : Nat} {A Al : Option Addr} {l : List Int} (hl : At w Al (ints l)) (hm : m = l.length) (hmax : l.length ≤ 255) (hg : w.cell? ⟨gb, 0, none⟩ = some (.slice A n c)) :
    Calls Tryd.prog 92 #[.slice Al m cl, .func (.func 67) #[] #[.pointer (some ⟨gb, 0, none⟩)]] w fun e w' => e = .returned (.int .i64 (wrongIx n l)) ∧ w = w' := by
  subst hm
  generalize hr : wrongIx n l = r
  have HR := Lib.hid hr
  clear hr
  go_enter Tryd.func92, Tryd.ntmps92
  go_wp2_with fail
  go_loop [8] (fun s8 => ∃ j : Nat, j ≤ l.length ∧ s8 = .int .i64 ((j : Nat) : Int) ∧ ∀ (i : Nat) (y : Int), i < j → l[i]? = some y → ¬ (y < 0 ∨ (n : Int) ≤ y)) (fun s8 => l.length - (intOf s8).toNat)
  case atStart => exact ⟨0, by omega, rfl, by intro i y hi; omega⟩
  case round =>
    obtain ⟨j, hj, rfl, hall⟩ := hrel
    have HALL := Lib.hid hall
    clear hall
    by_cases hjl : j < l.length
    · obtain ⟨b, off, rfl, hc⟩ := hl.int hjl
      have hx : l[j]? = some l[j] := List.getElem?_eq_getElem hjl
      have hji : (j : Int) < (l.length : Int) := by omega
      generalize l[j] = x at *
      have HX := Lib.hid hx
      have hcl := rs1_calls (x := x) hg
      clear hx
      by_cases hw : x < 0 ∨ (n : Int) ≤ x
      · rw [decide_eq_true hw] at hcl
        have HC := Lib.hid hcl
        have HW := Lib.hid hw
        clear hcl hw
        go_wp2_with fail
        refine HC.out.mono ?_
        rintro e w' ⟨rfl, rfl⟩
        go_wp2_with fail
        go_ret
        refine ⟨ret_int ?_, rfl⟩
        rw [← HR.out]
        exact (wrong_at HX.out HW.out HALL.out).symm
      · rw [decide_eq_false hw] at hcl
        have HC := Lib.hid hcl
        have HW := Lib.hid hw
        clear hcl hw
        go_wp2_with fail
        refine HC.out.mono ?_
        rintro e w' ⟨rfl, rfl⟩
        go_wp2_with fail
        refine ⟨⟨j + 1, by omega, by go_num, fun i y hi hy => ?_⟩, by simp [intOf]; omega⟩
        by_cases hij : i < j
        · exact HALL.out i y hij hy
        · obtain rfl : i = j := by omega
          rw [HX.out] at hy
          cases hy
          exact HW.out
    · obtain rfl : j = l.length := by omega
      go_wp2_with fail
      go_ret
      refine ⟨ret_int ?_, rfl⟩
      rw [← HR.out]
      exact (wrong_no HALL.out).symm

set_option maxHeartbeats 400000 in
theorem rhas_calls {w : World} {gb n c m cl : Nat} {A Al : Option Addr} {l : List Int} (hl : At w Al (ints l)) (hm : m = l.length) (hmax : l.length ≤ 255) (hg : w.cell? ⟨gb, 0, none⟩ = some (.slice A n c)) :
    Calls Tryd.prog 68 #[.slice Al m cl, .func (.func 67) #[] #[.pointer (some ⟨gb, 0, none⟩)]] w fun e w' => e = .returned (.bool (decide (0 ≤ wrongIx n l))) ∧ w = w' := by
  have HC := Lib.hid (ridx_calls (cl := cl) hl hm hmax hg)
  subst hm
  generalize wrongIx n l = r at *
  go_enter Tryd.func68, Tryd.ntmps68
  go_wp2_with fail
  refine HC.out.mono ?_
  rintro e w' ⟨rfl, rfl⟩
  go_wp2_with fail
  go_ret
  exact ⟨rfl, rfl⟩

end Go.Proofs.YtibidlgikecelaaDoor
