/- Contract: matrix.Mul. Contracts: matrix.Identity, matrix.Rows. Contract: matrix.Rows. Contracts: SameTexts; words for rows that were appended. -/
import Derived.Test.YtibidlgikecelaaDoorWB
import Derived.Test.YtibidlgikecelaaDoorJ
namespace Go.Proofs.YtibidlgikecelaaDoor
open Go.RowKit
set_option linter.unusedVariables false
set_option linter.unusedSimpArgs false

theorem Grid.lower {w : World} {B B' g r c : Nat} {blk : Nat → Nat} {M : Mx} (h : Grid w B g blk r c M) (hB : B' ≤ B) : Grid w B' g blk r c M :=
  ⟨h.top, h.row, h.inj, Nat.le_trans hB h.geG, fun i hi => Nat.le_trans hB (h.geB i hi)⟩
/-- A call answers a grid of its own, and OK. -/
def RetM (w : World) (r c : Nat) (M : Mx) (e : Ending) (w' : World) : Prop :=
  ∃ g blk, e = .returned (.tuple #[.slice (some ⟨g, 0, none⟩) r r, .int .i64 0]) ∧ Grid w' w.heap.size g blk r c M ∧ Below w.heap.size w w'
/-- A call answers nothing, and why. -/
def RetE (w : World) (k : Int) (e : Ending) (w' : World) : Prop := e = .returned (.tuple #[.slice none 0 0, .int .i64 k]) ∧ Below w.heap.size w w'

theorem At.lt {w : World} {A : Option Addr} {vs : List Value} (h : At w A vs) (hne : 0 < vs.length) : ∀ b off, A = some ⟨b, off, none⟩ → b < w.heap.size := by
  intro b off he
  obtain ⟨b', off', he', hc⟩ := h 0 vs[0] (List.getElem?_eq_getElem hne)
  rw [he] at he'
  cases he'
  exact block_lt hc
/-- A row's head. -/
theorem head_at {w : World} {b off i : Nat} {vs : List Value} {L : List (List B8)} {l : List B8} (hA : At w (some ⟨b, off, none⟩) vs) (hL : Texts w vs L) (hl : L[i]? = some l) :
    ∃ X cx, w.cell? ⟨b, off + i, none⟩ = some (.slice X l.length cx) ∧ At w X (bys l) ∧ l.length ≤ cx ∧ (X = none → cx = 0) := by
  have hi : i < L.length := (List.getElem?_eq_some_iff.1 hl).1
  have hiv : i < vs.length := by rw [hL.1]; exact hi
  obtain ⟨X, cx, hv, hXA, h2, h3, h4⟩ := hL.2 i vs[i] l (List.getElem?_eq_getElem hiv) hl
  obtain ⟨b', off', he, hc⟩ := hA i vs[i] (List.getElem?_eq_getElem hiv)
  cases he
  rw [hv] at hc
  exact ⟨X, cx, hc, hXA, h2, h3⟩
theorem heads_some {w : World} {A : Option Addr} {vs : List Value} {L : List (List B8)} (hA : At w A vs) (hL : Texts w vs L) (h : 0 < L.length) : ∃ b off, A = some ⟨b, off, none⟩ ∧ b < w.heap.size := by
  obtain ⟨b, off, rfl⟩ := some_of_at hA (by rw [hL.1]; exact h)
  exact ⟨b, off, rfl, hA.lt (by rw [hL.1]; exact h) b off rfl⟩
theorem row_head {w : World} {b off i r c : Nat} {M : Mx} {vs : List Value} (hA : At w (some ⟨b, off, none⟩) vs) (hL : Texts w vs (rowsL r c M)) (hi : i < r) :
    ∃ X cx, w.cell? ⟨b, off + i, none⟩ = some (.slice X c cx) ∧ At w X (bys (rowL c (M i))) ∧ c ≤ cx ∧ (X = none → cx = 0) := by
  obtain ⟨X, cx, h1, h2, h3, h4⟩ := head_at hA hL (rowsL_get hi)
  rw [length_rowL] at h1 h3
  exact ⟨X, cx, h1, h2, h3, h4⟩
theorem row_byte {w : World} {X : Option Addr} {c k : Nat} {f : Nat → B8} (h : At w X (bys (rowL c f))) (hk : k < c) : ∃ b off, X = some ⟨b, off, none⟩ ∧ w.cell? ⟨b, off + k, none⟩ = some (.int .u8 ((f k).toNat : Int)) := by
  obtain ⟨b, off, he, hc⟩ := h.byte (k := k) (by simpa using hk)
  rw [show (rowL c f)[k]'(by simpa using hk) = f k from by simp [rowL]] at hc
  exact ⟨b, off, he, hc⟩

set_option maxHeartbeats 800000 in
set_option maxRecDepth 100000 in
theorem matmul_calls {w : World} {A B : Option Addr} {r n c cA cB : Nat} {vA vB : List Value} {MA MB : Mx} (hA : At w A vA) (hLA : Texts w vA (rowsL r n MA)) (hB : At w B vB) (hLB : Texts w vB (rowsL n c MB))
    (hr : 0 < r) (hr2 : r ≤ 255) (hn : 0 < n) (hn2 : n ≤ 255) (hc : 0 < c) (hc2 : c ≤ 255) (hF : FoldAt w) :
    Calls Tryd.prog 24 #[.slice A r cA, .slice B n cB] w (RetM w r c (mulM n MA MB)) := by
  have hri : (0 : Int) < (r : Int) := by omega
  have hni : (0 : Int) < (n : Int) := by omega
  obtain ⟨ba, oa, rfl, hba⟩ := heads_some hA hLA (by simpa using hr)
  obtain ⟨bb, ob, rfl, hbb⟩ := heads_some hB hLB (by simpa using hn)
  obtain ⟨XA0, cA0, hA0, _, _, _⟩ := row_head hA hLA hr
  obtain ⟨XB0, cB0, hB0, _, _, _⟩ := row_head hB hLB hn
  rw [Nat.add_zero] at hA0 hB0
  have hisA := Lib.hid (is_calls (c := cA) hA hLA (by simp : r = _))
  rw [rowsL_isB MA hr hr2 hn hn2] at hisA
  have hnn : ((n : Int) != (n : Int)) = false := by simp
  go_enter Tryd.func24, Tryd.ntmps24
  go_wp2_with fail
  refine hisA.out.mono ?_
  rintro e w1 ⟨rfl, hb1⟩
  have hisB := Lib.hid (is_calls (c := cB) (hB.below hb1) (hLB.below hb1) (by simp : n = _))
  rw [rowsL_isB MB hn hn2 hc hc2] at hisB
  go_wp2_with fail
  refine hisB.out.mono ?_
  rintro e w2 ⟨rfl, hb2⟩
  have hB2 : Below w.heap.size w w2 := hb1.trans (hb2.mono hb1.size)
  have hA02 := (hB2.cell (p := ⟨ba, oa, none⟩) hba).trans hA0
  have hB02 := (hB2.cell (p := ⟨bb, ob, none⟩) hbb).trans hB0
  go_wp2_with fail
  refine (grid_calls (r := r) (c := c) (by omega) (by omega)).mono ?_
  rintro e w3 ⟨g, blk, rfl, hG, hb3⟩
  have hB3 : Below w.heap.size w w3 := hB2.trans (hb3.mono hB2.size)
  have hgB : w.heap.size ≤ g := Nat.le_trans hB2.size hG.geG
  have hblkB : ∀ i, i < r → w.heap.size ≤ blk i := fun i hi => Nat.le_trans hB2.size (hG.geB i hi)
  clear hA02 hB02 hb3
  go_wp2_with fail
  go_loopw [37] (fun s wr => ∃ i : Nat, i ≤ r ∧ s = .int .i64 ((i : Nat) : Int) ∧ Grid wr w2.heap.size g blk r c (mulAt n MA MB i 0) ∧ Below w.heap.size w wr) (fun s _ => r - (intOf s).toNat)
  case atStart => exact ⟨0, by omega, rfl, by rw [mulAt_start]; exact hG, hB3⟩
  case round =>
    obtain ⟨i, hi, rfl, hGr, hBr⟩ := hrel
    clear hG hB3
    by_cases hir : i < r
    · have hii : (i : Int) < (r : Int) := by omega
      obtain ⟨XA, cxa, hca, hXA, _, _⟩ := row_head hA hLA hir
      have hcaw := (hBr.cell (p := ⟨ba, oa + i, none⟩) hba).trans hca
      have hXn := hXA.lt (by simpa using hn)
      obtain ⟨bx, ox, rfl⟩ := some_of_at hXA (by simpa using hn)
      have hbx := hXn bx ox rfl
      go_wp2_with fail
      go_loopw [44] (fun s wr => ∃ k : Nat, k ≤ n ∧ s = .int .i64 ((k : Nat) : Int) ∧ Grid wr w2.heap.size g blk r c (mulAt n MA MB i k) ∧ Below w.heap.size w wr) (fun s _ => n - (intOf s).toNat)
      case atStart => exact ⟨0, by omega, rfl, hGr, hBr⟩
      case round =>
        obtain ⟨k, hk, rfl, hGs, hBs⟩ := hrel
        clear hGr hBr hcaw
        by_cases hkn : k < n
        · have hkk : (k : Int) < (n : Int) := by omega
          obtain ⟨_, _, he, hcx⟩ := row_byte hXA hkn
          cases he
          have hcxw := (hBs.cell (p := ⟨bx, ox + k, none⟩) hbx).trans hcx
          obtain ⟨XB, cxb, hcb, hXB, _, _⟩ := row_head hB hLB hkn
          have hcbw := (hBs.cell (p := ⟨bb, ob + k, none⟩) hbb).trans hcb
          have hcg := hGs.cell hir
          have hFs := FoldAt.below hF hBs
          have hXs := hXB.below hBs
          have hbl := hblkB i hir
          have hgl := hGs.ne hir
          have hrow := hGs.row i hir
          have HS := Lib.hid (mulAt_step n MA MB i k)
          have hBlt := hXB.lt (by simpa using hc)
          generalize MA i k = x at *
          go_wp2_with fail
          have hcgD : wr.drew.cell? ⟨g, i, none⟩ = some (.slice (some ⟨blk i, 0, none⟩) c c) := hcg
          have hcbD : wr.drew.cell? ⟨bb, ob + k, none⟩ = some (.slice XB c cxb) := hcbw
          refine wp_region_held_drew (S := fun w' => w'.cell? ⟨g, i, none⟩ = some (.slice (some ⟨blk i, 0, none⟩) c c) ∧ w'.cell? ⟨bb, ob + k, none⟩ = some (.slice XB c cxb)) (by kernel_rfl) ⟨hcgD, hcbD⟩ (fun hHeld => ?_)
          have hGD := hGs.below (belowN 1 : Below wr.heap.size wr (wr.drewN 1))
          have hrD : RowB wr.drew (blk i) (rowL c (mulAt n MA MB i k i)) := hrow
          have hXD : At wr.drew XB (bys (rowL c (MB k))) := hXs
          have hFD : FoldAt wr.drew := hFs
          have hBD : Below w.heap.size w wr.drew := hBs.trans ((belowN 1 : Below wr.heap.size wr (wr.drewN 1)).mono hBs.size)
          replace hGD : Grid wr.drew w2.heap.size g blk r c (mulAt n MA MB i k) := hGD
          generalize wr.drew = WD at *
          clear hcg hcbw hFs hXs hrow hGs
          refine wpAnyH_take (i := 0) (v := ?_) rfl (by kernel_rfl) (by kernel_rfl) (by kernel_rfl) (fun _ _ _ h => h) (Or.inl ⟨by rfl, ?_⟩) (by assumption) ?_; rotate_left; (intro w hSw; (try dsimp only at hSw); go_simp; (first | done | (with_reducible rfl))); (try simp only [List.getElem_toArray, List.getElem_cons_succ, List.getElem_cons_zero, Act.put, List.setIfInBounds_toArray, List.set_cons_zero, List.set_cons_succ])
          refine wpAnyH_take (i := 1) (v := ?_) rfl (by kernel_rfl) (by kernel_rfl) (by kernel_rfl) (fun _ _ _ h => h) (Or.inl ⟨by rfl, ?_⟩) (by assumption) ?_; rotate_left; (intro w hSw; (try dsimp only at hSw); go_simp; (first | done | (with_reducible rfl))); (try simp only [List.getElem_toArray, List.getElem_cons_succ, List.getElem_cons_zero, Act.put, List.setIfInBounds_toArray, List.set_cons_zero, List.set_cons_succ])
          refine wpAnyH_take (i := 4) (v := ?_) rfl (by kernel_rfl) (by kernel_rfl) (by kernel_rfl) (fun _ _ _ h => h) (Or.inl ⟨by rfl, ?_⟩) (by assumption) ?_; rotate_left; (intro w hSw; (try dsimp only at hSw); go_simp; (first | done | (with_reducible rfl))); (try simp only [List.getElem_toArray, List.getElem_cons_succ, List.getElem_cons_zero, Act.put, List.setIfInBounds_toArray, List.set_cons_zero, List.set_cons_succ])
          refine wpAnyH_take (i := 5) (v := ?_) rfl (by kernel_rfl) (by kernel_rfl) (by kernel_rfl) (fun _ _ _ h => h) (Or.inl ⟨by rfl, ?_⟩) (by assumption) ?_; rotate_left; (intro w hSw; (try dsimp only at hSw); go_simp; (first | done | (with_reducible rfl))); (try simp only [List.getElem_toArray, List.getElem_cons_succ, List.getElem_cons_zero, Act.put, List.setIfInBounds_toArray, List.set_cons_zero, List.set_cons_succ])
          refine wpAnyH_take (i := 8) (v := ?_) rfl (by kernel_rfl) (by kernel_rfl) (by kernel_rfl) (fun _ _ _ h => h) (Or.inl ⟨by rfl, ?_⟩) (by assumption) ?_; rotate_left; (intro w hSw; (try dsimp only at hSw); go_simp; (first | done | (with_reducible rfl))); (try simp only [List.getElem_toArray, List.getElem_cons_succ, List.getElem_cons_zero, Act.put, List.setIfInBounds_toArray, List.set_cons_zero, List.set_cons_succ])
          refine wpAnyH_take (i := 2) (v := ?_) rfl (by kernel_rfl) (by kernel_rfl) (by kernel_rfl) (fun _ _ _ h => h) (Or.inl ⟨by rfl, ?_⟩) (by assumption) ?_; rotate_left; (intro w hSw; (try dsimp only at hSw); go_simp; (first | done | (with_reducible rfl))); (try simp only [List.getElem_toArray, List.getElem_cons_succ, List.getElem_cons_zero, Act.put, List.setIfInBounds_toArray, List.set_cons_zero, List.set_cons_succ])
          refine wpAnyH_take (i := 3) (v := ?_) rfl (by kernel_rfl) (by kernel_rfl) (by kernel_rfl) (fun _ _ _ h => h) (Or.inl ⟨by rfl, ?_⟩) (by assumption) ?_; rotate_left; (intro w hSw; (try dsimp only at hSw); go_simp; (first | done | (with_reducible rfl))); (try simp only [List.getElem_toArray, List.getElem_cons_succ, List.getElem_cons_zero, Act.put, List.setIfInBounds_toArray, List.set_cons_zero, List.set_cons_succ])
          refine wpAnyH_take (i := 6) (v := ?_) rfl (by kernel_rfl) (by kernel_rfl) (by kernel_rfl) (fun _ _ _ h => h) (Or.inl ⟨by rfl, ?_⟩) (by assumption) ?_; rotate_left; (intro w hSw; (try dsimp only at hSw); go_simp; (first | done | (with_reducible rfl))); (try simp only [List.getElem_toArray, List.getElem_cons_succ, List.getElem_cons_zero, Act.put, List.setIfInBounds_toArray, List.set_cons_zero, List.set_cons_succ])
          refine wpAnyH_take (i := 7) (v := ?_) rfl (by kernel_rfl) (by kernel_rfl) (by kernel_rfl) (fun _ _ _ h => h) (Or.inl ⟨by rfl, ?_⟩) (by assumption) ?_; rotate_left; (intro w hSw; (try dsimp only at hSw); go_simp; (first | done | (with_reducible rfl))); (try simp only [List.getElem_toArray, List.getElem_cons_succ, List.getElem_cons_zero, Act.put, List.setIfInBounds_toArray, List.set_cons_zero, List.set_cons_succ])
          refine wpAnyH_ready (rs := [9]) (by kernel_rfl) (by simp) ?_; refine AllReadyH.cons rfl (fun K hK => ?_) AllReadyH.nil
          go_simp
          refine (gather_calls hrD hXD hFD (by omega) (fun b off he => by have := hBlt b off he; omega) (by omega)).mono ?_
          rintro e w4 ⟨rfl, hg4, hr4⟩
          go_wp2_with fail
          refine hK.out _ _ ⟨hg4.cell hcgD (by simpa using Ne.symm hgl), hg4.cell hcbD (by simp; omega)⟩ (fun hHeld => ?_)
          clear hK K
          (try simp only [List.getElem_toArray, List.getElem_cons_succ, List.getElem_cons_zero, Act.put, List.setIfInBounds_toArray, List.set_cons_zero, List.set_cons_succ])
          refine wpAnyH_done (by kernel_rfl) ?_ _
          go_wp2_with fail
          have hG4 := hGD.setRow hir hg4 hr4
          exact ⟨⟨k + 1, by omega, by go_num, by rw [← HS.out]; exact hG4, hBD.trans (below_of_grown hg4 hBD.size (by intro t ht; cases ht; omega))⟩, by simp [intOf]; omega⟩
        · obtain rfl : k = n := by omega
          go_wp2_with fail
          exact ⟨⟨i + 1, by omega, by go_num, by rw [← mulAt_next]; exact hGs, hBs⟩, by simp [intOf]; omega⟩
    · obtain rfl : i = r := by omega
      go_wp2_with fail
      go_ret2
      exact ⟨g, blk, rfl, (hGr.lower hB2.size).congr (mulAt_end _ _ _ _ _), hBr⟩

end Go.Proofs.YtibidlgikecelaaDoor

namespace Go.Proofs.YtibidlgikecelaaDoor
open Go.RowKit
set_option linter.unusedVariables false
set_option linter.unusedSimpArgs false

theorem Grid.put {w : World} {B g r c : Nat} {blk : Nat → Nat} {M : Mx} (h : Grid w B g blk r c M) {i : Nat} (hi : i < r) (j : Nat) (x : B8) :
    Grid (w.setCell ⟨blk i, j, none⟩ (bv x)) B g blk r c (putR M i (fun k => if k = j then x else M i k)) :=
  h.setRow hi (grown_set _ _ _ _) (by rw [← rowL_set]; exact (h.row i hi).set j x)
theorem Grid.put_below {w w0 : World} {B g r c : Nat} {blk : Nat → Nat} {M : Mx} (h : Grid w B g blk r c M) {i : Nat} (hi : i < r) (j : Nat) (x : Value) (hb : Below B w0 w) : Below B w0 (w.setCell ⟨blk i, j, none⟩ x) :=
  hb.setCell (h.geB i hi) _
/-- A row is copied. -/
theorem Grid.copy {w w' : World} {B g r c : Nat} {blk : Nat → Nat} {M : Mx} (h : Grid w B g blk r c M) {i : Nat} (hi : i < r) {f : Nat → B8} (hg : w.grownBy w' (some (blk i)))
    (hr : RowB w' (blk i) ((rowL c (M i)).take 0 ++ (rowL c f ++ (rowL c (M i)).drop (0 + (rowL c f).length)))) : Grid w' B g blk r c (putR M i f) :=
  h.setRow hi hg (by rwa [over_full (by simp)] at hr)

set_option maxHeartbeats 400000 in
set_option maxRecDepth 100000 in
theorem ident_calls {w : World} {n : Nat} (hn : 1 ≤ n) (hn2 : n ≤ 255) : Calls Tryd.prog 25 #[.int .i64 (n : Int)] w (RetM w n n oneM) := by
  have hb1 : decide ((n : Int) < (1 : Int)) = false := decide_eq_false (by omega)
  have hb2 : decide ((255 : Int) < (n : Int)) = false := decide_eq_false (by omega)
  go_enter Tryd.func25, Tryd.ntmps25
  go_wp2_with fail
  refine (grid_calls (r := n) (c := n) (by omega) (by omega)).mono ?_
  rintro e w1 ⟨g, blk, rfl, hG, hb⟩
  go_wp2_with fail
  go_loopw [17] (fun s wr => ∃ i : Nat, i ≤ n ∧ s = .int .i64 ((i : Nat) : Int) ∧ Grid wr w.heap.size g blk n n (oneAt i) ∧ Below w.heap.size w wr) (fun s _ => n - (intOf s).toNat)
  case atStart => exact ⟨0, by omega, rfl, by rw [oneAt_start]; exact hG, hb⟩
  case round =>
    obtain ⟨i, hi, rfl, hGr, hBr⟩ := hrel
    clear hG hb
    by_cases hin : i < n
    · have hii : (i : Int) < (n : Int) := by omega
      have hcg := hGr.cell hin
      have hcb := (hGr.row i hin).cell (rowL_get (f := oneAt i i) hin)
      have hfz := (hGr.row i hin).frozen i
      have hS := Lib.hid (oneAt_step i)
      go_wp2_with fail
      have hG2 := hGr.put hin i 1#8
      rw [hS.out] at hG2
      exact ⟨⟨i + 1, by omega, by go_num, hG2, hGr.put_below hin i _ hBr⟩, by simp [intOf]; omega⟩
    · obtain rfl : i = n := by omega
      go_wp2_with fail
      go_ret2
      exact ⟨g, blk, rfl, hGr.congr (oneAt_end _ _), hBr⟩

theorem ident_bad {w : World} {n : Int} (h : n < 1 ∨ 255 < n) : Calls Tryd.prog 25 #[.int .i64 n] w (RetE w 1) := by
  by_cases h1 : n < 1
  · have hb1 : decide (n < (1 : Int)) = true := decide_eq_true h1
    go_enter Tryd.func25, Tryd.ntmps25
    go_wp2_with fail
    go_ret2
    exact ⟨rfl, Below.refl _ _⟩
  · have hb1 : decide (n < (1 : Int)) = false := decide_eq_false h1
    have hb2 : decide ((255 : Int) < n) = true := decide_eq_true (by omega)
    go_enter Tryd.func25, Tryd.ntmps25
    go_wp2_with fail
    go_ret2
    exact ⟨rfl, Below.refl _ _⟩

/-- The first number that is no row's, and -1 where there is none. -/
def wrongIx (n : Nat) (l : List Int) : Int := match l.findIdx? fun x => decide (x < 0 ∨ (n : Int) ≤ x) with | some k => (k : Int) | none => -1
theorem wrong_at {n j : Nat} {l : List Int} {x : Int} (hl : l[j]? = some x) (hx : x < 0 ∨ (n : Int) ≤ x) (h : ∀ (i : Nat) (y : Int), i < j → l[i]? = some y → ¬ (y < 0 ∨ (n : Int) ≤ y)) : wrongIx n l = (j : Int) := by
  unfold wrongIx
  have : l.findIdx? (fun x => decide (x < 0 ∨ (n : Int) ≤ x)) = some j := by
    rw [List.findIdx?_eq_some_iff_getElem]
    obtain ⟨hj, he⟩ := List.getElem?_eq_some_iff.1 hl
    refine ⟨hj, by rw [he]; exact decide_eq_true hx, fun i hi => ?_⟩
    have := h i _ hi (List.getElem?_eq_getElem (by omega))
    simp only [decide_eq_false this]
    decide
  rw [this]
theorem wrong_no {n : Nat} {l : List Int} (h : ∀ (i : Nat) (y : Int), i < l.length → l[i]? = some y → ¬ (y < 0 ∨ (n : Int) ≤ y)) : wrongIx n l = -1 := by
  unfold wrongIx
  have : l.findIdx? (fun x => decide (x < 0 ∨ (n : Int) ≤ x)) = none := by
    rw [List.findIdx?_eq_none_iff]
    intro r hr
    obtain ⟨i, hi, rfl⟩ := List.getElem_of_mem hr
    exact decide_eq_false (h i _ hi (List.getElem?_eq_getElem hi))
  rw [this]
theorem wrong_all {n : Nat} {l : List Int} (h : ∀ y, y ∈ l → 0 ≤ y ∧ y < (n : Int)) : wrongIx n l = -1 :=
  wrong_no fun i y _ hy => by have := h y (List.mem_of_getElem? hy); omega

set_option maxHeartbeats 400000 in
theorem rs1_calls {w : World} {gb n c : Nat} {A : Option Addr} {x : Int} (hg : w.cell? ⟨gb, 0, none⟩ = some (.slice A n c)) :
    Calls Tryd.prog 67 #[.int .i64 x, .pointer (some ⟨gb, 0, none⟩)] w fun e w' => e = .returned (.bool (decide (x < 0 ∨ (n : Int) ≤ x))) ∧ w = w' := by
  by_cases h1 : x < 0
  · have hb1 : decide (x < (0 : Int)) = true := decide_eq_true h1
    rw [decide_eq_true (Or.inl h1)]
    go_enter Tryd.func67, Tryd.ntmps67
    go_wp2_with fail
    go_ret
    exact ⟨rfl, rfl⟩
  · have hb1 : decide (x < (0 : Int)) = false := decide_eq_false h1
    have hd : decide (x < 0 ∨ (n : Int) ≤ x) = decide ((n : Int) ≤ x) := by
      by_cases h2 : (n : Int) ≤ x
      · rw [decide_eq_true h2, decide_eq_true (Or.inr h2)]
      · rw [decide_eq_false h2, decide_eq_false (by omega)]
    rw [hd]
    clear hd
    go_enter Tryd.func67, Tryd.ntmps67
    go_wp2_with fail
    go_ret
    exact ⟨rfl, rfl⟩

set_option maxHeartbeats 400000 in
set_option maxRecDepth 100000 in
theorem ridx_calls {w : World} {gb n c m cl : Nat} {A Al : Option Addr} {l : List Int} (hl : At w Al (ints l)) (hm : m = l.length) (hmax : l.length ≤ 255) (hg : w.cell? ⟨gb, 0, none⟩ = some (.slice A n c)) :
    Calls Tryd.prog 92 #[.slice Al m cl, .func (.func 67) #[] #[.pointer (some ⟨gb, 0, none⟩)]] w fun e w' => e = .returned (.int .i64 (wrongIx n l)) ∧ w = w' := by
  subst hm
  generalize hr : wrongIx n l = r
  have HR := Lib.hid hr
  clear hr
  go_enter Tryd.func92, Tryd.ntmps92
  go_wp2_with fail
  go_loop [8] (fun s8 => ∃ j : Nat, j ≤ l.length ∧ s8 = .int .i64 ((j : Nat) : Int) ∧ ∀ (i : Nat) (y : Int), i < j → l[i]? = some y → ¬ (y < 0 ∨ (n : Int) ≤ y)) (fun s8 => l.length - (intOf s8).toNat)
  case atStart => exact ⟨0, by omega, rfl, by intro i y hi; omega⟩
  case round =>
    obtain ⟨j, hj, rfl, hall⟩ := hrel
    have HALL := Lib.hid hall
    clear hall
    by_cases hjl : j < l.length
    · obtain ⟨b, off, rfl, hc⟩ := hl.int hjl
      have hx : l[j]? = some l[j] := List.getElem?_eq_getElem hjl
      have hji : (j : Int) < (l.length : Int) := by omega
      generalize l[j] = x at *
      have HX := Lib.hid hx
      have hcl := rs1_calls (x := x) hg
      clear hx
      by_cases hw : x < 0 ∨ (n : Int) ≤ x
      · rw [decide_eq_true hw] at hcl
        have HC := Lib.hid hcl
        have HW := Lib.hid hw
        clear hcl hw
        go_wp2_with fail
        refine HC.out.mono ?_
        rintro e w' ⟨rfl, rfl⟩
        go_wp2_with fail
        go_ret
        refine ⟨ret_int ?_, rfl⟩
        rw [← HR.out]
        exact (wrong_at HX.out HW.out HALL.out).symm
      · rw [decide_eq_false hw] at hcl
        have HC := Lib.hid hcl
        have HW := Lib.hid hw
        clear hcl hw
        go_wp2_with fail
        refine HC.out.mono ?_
        rintro e w' ⟨rfl, rfl⟩
        go_wp2_with fail
        refine ⟨⟨j + 1, by omega, by go_num, fun i y hi hy => ?_⟩, by simp [intOf]; omega⟩
        by_cases hij : i < j
        · exact HALL.out i y hij hy
        · obtain rfl : i = j := by omega
          rw [HX.out] at hy
          cases hy
          exact HW.out
    · obtain rfl : j = l.length := by omega
      go_wp2_with fail
      go_ret
      refine ⟨ret_int ?_, rfl⟩
      rw [← HR.out]
      exact (wrong_no HALL.out).symm

set_option maxHeartbeats 400000 in
theorem rhas_calls {w : World} {gb n c m cl : Nat} {A Al : Option Addr} {l : List Int} (hl : At w Al (ints l)) (hm : m = l.length) (hmax : l.length ≤ 255) (hg : w.cell? ⟨gb, 0, none⟩ = some (.slice A n c)) :
    Calls Tryd.prog 68 #[.slice Al m cl, .func (.func 67) #[] #[.pointer (some ⟨gb, 0, none⟩)]] w fun e w' => e = .returned (.bool (decide (0 ≤ wrongIx n l))) ∧ w = w' := by
  have HC := Lib.hid (ridx_calls (cl := cl) hl hm hmax hg)
  subst hm
  generalize wrongIx n l = r at *
  go_enter Tryd.func68, Tryd.ntmps68
  go_wp2_with fail
  refine HC.out.mono ?_
  rintro e w' ⟨rfl, rfl⟩
  go_wp2_with fail
  go_ret
  exact ⟨rfl, rfl⟩

end Go.Proofs.YtibidlgikecelaaDoor

namespace Go.Proofs.YtibidlgikecelaaDoor
open Go.RowKit
set_option linter.unusedVariables false
set_option linter.unusedSimpArgs false

/-- Some rows. -/
def pickM (l : List Int) (M : Mx) : Mx := fun k j => M (l.getD k 0).toNat j
theorem pickM_at {l : List Int} {M : Mx} {k y : Nat} (h : l[k]? = some (y : Int)) : pickM l M k = M y := by
  funext j
  unfold pickM
  rw [List.getD_eq_getElem?_getD, h]
  simp
theorem topAt_put (i : Nat) (M : Mx) {f : Nat → B8} (h : M i = f) : putR (topAt i M) i f = topAt (i + 1) M := by rw [← h, topAt_step]

set_option maxHeartbeats 800000 in
set_option maxRecDepth 100000 in
theorem rows_calls {w : World} {A Al : Option Addr} {r c m cA cl : Nat} {vA : List Value} {M : Mx} {l : List Int} (hA : At w A vA) (hLA : Texts w vA (rowsL r c M)) (hl : At w Al (ints l)) (hm : m = l.length)
    (hr : 0 < r) (hr2 : r ≤ 255) (hc : 0 < c) (hc2 : c ≤ 255) (hl1 : 0 < l.length) (hl2 : l.length ≤ 255) (hin : ∀ y, y ∈ l → 0 ≤ y ∧ y < (r : Int)) :
    Calls Tryd.prog 28 #[.slice A r cA, .slice Al m cl] w (RetM w m c (pickM l M)) := by
  subst hm
  have hri : (0 : Int) < (r : Int) := by omega
  obtain ⟨ba, oa, rfl, hba⟩ := heads_some hA hLA (by simpa using hr)
  obtain ⟨XA0, cA0, hA0, _, _, _⟩ := row_head hA hLA hr
  rw [Nat.add_zero] at hA0
  have hbw := below1' w (.cells #[.slice (some ⟨ba, oa, none⟩) r cA] 24)
  have hbox := box_cell w (.slice (some ⟨ba, oa, none⟩) r cA) 24
  have hisA := Lib.hid (is_calls (c := cA) (hA.below hbw) (hLA.below hbw) (by simp : r = _))
  rw [rowsL_isB M hr hr2 hc hc2] at hisA
  have hm1 : ((l.length : Int) == (0 : Int)) = false := by simp; intro h; rw [h] at hl1; simp at hl1
  have hm2 : decide ((255 : Int) < (l.length : Int)) = false := decide_eq_false (by omega)
  have hsw : (w.alloc (.cells #[.slice (some ⟨ba, oa, none⟩) r cA] 24)).heap.size = w.heap.size + 1 := by simp
  go_enter Tryd.func28, Tryd.ntmps28
  go_wp2_with fail
  refine hisA.out.mono ?_
  generalize w.alloc (.cells #[.slice (some ⟨ba, oa, none⟩) r cA] 24) = w0 at *
  rintro e w1 ⟨rfl, hb1⟩
  have hB1 : Below w.heap.size w w1 := hbw.trans (hb1.mono hbw.size)
  have hbox1 := (hb1.cell (p := ⟨w.heap.size, 0, none⟩) (by simp; omega)).trans hbox
  have hA01 := (hB1.cell (p := ⟨ba, oa, none⟩) hba).trans hA0
  have hHas := Lib.hid (rhas_calls (cl := cl) (hl.below hB1) rfl hl2 hbox1)
  rw [wrong_all hin] at hHas
  go_wp2_with fail
  refine hHas.out.mono ?_
  rintro e w2 ⟨rfl, rfl⟩
  go_wp2_with fail
  refine (grid_calls (r := l.length) (c := c) (by omega) (by omega)).mono ?_
  rintro e w3 ⟨g, blk, rfl, hG, hb3⟩
  have hB3 : Below w.heap.size w w3 := hB1.trans (hb3.mono hB1.size)
  have hz1 : w.heap.size + 1 ≤ w1.heap.size := by have := hb1.size; omega
  have hz3 : w.heap.size + 1 ≤ w3.heap.size := Nat.le_trans hz1 hb3.size
  have hblkB : ∀ i, i < l.length → w.heap.size + 1 ≤ blk i := fun i hi => Nat.le_trans hz1 (hG.geB i hi)
  have hbox3 := (hb3.cell (p := ⟨w.heap.size, 0, none⟩) (by simp; omega)).trans hbox1
  replace hG := hG.lower hz1
  clear hA01 hbox1 hHas hbox
  go_wp2_with fail
  go_loopw [38] (fun s wr => ∃ i : Nat, i ≤ l.length ∧ s = .int .i64 ((i : Nat) : Int) ∧ Grid wr (w.heap.size + 1) g blk l.length c (topAt i (pickM l M)) ∧ Below (w.heap.size + 1) w3 wr) (fun s _ => l.length - (intOf s).toNat)
  case atStart => exact ⟨0, by omega, rfl, by rw [topAt_start]; exact hG, Below.refl _ _⟩
  case round =>
    obtain ⟨i, hi, rfl, hGr, hBr⟩ := hrel
    clear hG
    have hBw : Below w.heap.size w wr := hB3.trans (hBr.mono (by omega))
    by_cases hil : i < l.length
    · have hii : (i : Int) < (l.length : Int) := by omega
      obtain ⟨bl, ol, rfl, hcl⟩ := hl.int hil
      have hx : l[i]? = some l[i] := List.getElem?_eq_getElem hil
      have hxr := hin _ (List.getElem_mem hil)
      generalize l[i] = x at *
      obtain ⟨y, rfl⟩ := Int.eq_ofNat_of_zero_le hxr.1
      have hyr : y < r := by have := hxr.2; omega
      have hP := Lib.hid (pickM_at (M := M) hx)
      obtain ⟨X, cx, hca, hXA, _, _⟩ := row_head hA hLA hyr
      have hcaw := (hBw.cell (p := ⟨ba, oa + y, none⟩) hba).trans hca
      have hclw := (hBw.cell (p := ⟨bl, ol + i, none⟩) (block_lt hcl)).trans hcl
      have hboxw := (hBr.cell (p := ⟨w.heap.size, 0, none⟩) (by simp)).trans hbox3
      have hcg := hGr.cell hil
      have hrow := hGr.row i hil
      have hXw := hXA.below hBw
      have hgl := hGr.ne hil
      have hgB := hGr.geG
      have hbl := hGr.geB i hil
      have hxr2 : ((y : Nat) : Int) < (r : Int) := hxr.2
      have hblt := block_lt hcl
      clear hcl hca hx hxr
      go_wp2_with fail
      have hcgD : wr.drew.cell? ⟨g, i, none⟩ = some (.slice (some ⟨blk i, 0, none⟩) c c) := hcg
      have hcaD : wr.drew.cell? ⟨ba, oa + y, none⟩ = some (.slice X c cx) := hcaw
      have hboxD : wr.drew.cell? ⟨w.heap.size, 0, none⟩ = some (.slice (some ⟨ba, oa, none⟩) r cA) := hboxw
      refine wp_region_held_drew (S := fun w' => w'.cell? ⟨g, i, none⟩ = some (.slice (some ⟨blk i, 0, none⟩) c c) ∧ w'.cell? ⟨ba, oa + y, none⟩ = some (.slice X c cx) ∧ w'.cell? ⟨w.heap.size, 0, none⟩ = some (.slice (some ⟨ba, oa, none⟩) r cA)) (by kernel_rfl) ⟨hcgD, hcaD, hboxD⟩ (fun hHeld => ?_)
      have hGD : Grid wr.drew (w.heap.size + 1) g blk l.length c (topAt i (pickM l M)) := hGr.below (belowN 1 : Below wr.heap.size wr (wr.drewN 1))
      have hrD : RowB wr.drew (blk i) (rowL c (topAt i (pickM l M) i)) := hrow
      have hXD : At wr.drew X (bys (rowL c (M y))) := hXw
      have hBD : Below (w.heap.size + 1) w3 wr.drew := hBr.trans ((belowN 1 : Below wr.heap.size wr (wr.drewN 1)).mono (Nat.le_trans hz3 hBr.size))
      generalize wr.drew = WD at *
      clear hcg hcaw hclw hboxw hrow hXw hGr hBr hBw
      refine wpAnyH_take (i := 0) (v := ?_) rfl (by kernel_rfl) (by kernel_rfl) (by kernel_rfl) (fun _ _ _ h => h) (Or.inl ⟨by rfl, ?_⟩) (by assumption) ?_; rotate_left; (intro w hSw; (try dsimp only at hSw); go_simp; (first | done | (with_reducible rfl))); (try simp only [List.getElem_toArray, List.getElem_cons_succ, List.getElem_cons_zero, Act.put, List.setIfInBounds_toArray, List.set_cons_zero, List.set_cons_succ])
      refine wpAnyH_take (i := 1) (v := ?_) rfl (by kernel_rfl) (by kernel_rfl) (by kernel_rfl) (fun _ _ _ h => h) (Or.inl ⟨by rfl, ?_⟩) (by assumption) ?_; rotate_left; (intro w hSw; (try dsimp only at hSw); go_simp; (first | done | (with_reducible rfl))); (try simp only [List.getElem_toArray, List.getElem_cons_succ, List.getElem_cons_zero, Act.put, List.setIfInBounds_toArray, List.set_cons_zero, List.set_cons_succ])
      refine wpAnyH_take (i := 2) (v := ?_) rfl (by kernel_rfl) (by kernel_rfl) (by kernel_rfl) (fun _ _ _ h => h) (Or.inl ⟨by rfl, ?_⟩) (by assumption) ?_; rotate_left; (intro w hSw; (try dsimp only at hSw); go_simp; (first | done | (with_reducible rfl))); (try simp only [List.getElem_toArray, List.getElem_cons_succ, List.getElem_cons_zero, Act.put, List.setIfInBounds_toArray, List.set_cons_zero, List.set_cons_succ])
      refine wpAnyH_take (i := 3) (v := ?_) rfl (by kernel_rfl) (by kernel_rfl) (by kernel_rfl) (fun _ _ _ h => h) (Or.inl ⟨by rfl, ?_⟩) (by assumption) ?_; rotate_left; (intro w hSw; (try dsimp only at hSw); go_simp; (first | done | (with_reducible rfl))); (try simp only [List.getElem_toArray, List.getElem_cons_succ, List.getElem_cons_zero, Act.put, List.setIfInBounds_toArray, List.set_cons_zero, List.set_cons_succ])
      refine wpAnyH_take (i := 4) (v := ?_) rfl (by kernel_rfl) (by kernel_rfl) (by kernel_rfl) (fun _ _ _ h => h) (Or.inl ⟨by rfl, ?_⟩) (by assumption) ?_; rotate_left; (intro w hSw; (try dsimp only at hSw); go_simp; (first | done | (with_reducible rfl))); (try simp only [List.getElem_toArray, List.getElem_cons_succ, List.getElem_cons_zero, Act.put, List.setIfInBounds_toArray, List.set_cons_zero, List.set_cons_succ])
      refine wpAnyH_take (i := 5) (v := ?_) rfl (by kernel_rfl) (by kernel_rfl) (by kernel_rfl) (fun _ _ _ h => h) (Or.inl ⟨by rfl, ?_⟩) (by assumption) ?_; rotate_left; (intro w hSw; (try dsimp only at hSw); go_simp; (first | done | (with_reducible rfl))); (try simp only [List.getElem_toArray, List.getElem_cons_succ, List.getElem_cons_zero, Act.put, List.setIfInBounds_toArray, List.set_cons_zero, List.set_cons_succ])
      refine wpAnyH_take (i := 6) (v := ?_) rfl (by kernel_rfl) (by kernel_rfl) (by kernel_rfl) (fun _ _ _ h => h) (Or.inl ⟨by rfl, ?_⟩) (by assumption) ?_; rotate_left; (intro w hSw; (try dsimp only at hSw); go_simp; (first | done | (with_reducible rfl))); (try simp only [List.getElem_toArray, List.getElem_cons_succ, List.getElem_cons_zero, Act.put, List.setIfInBounds_toArray, List.set_cons_zero, List.set_cons_succ])
      refine wpAnyH_take (i := 7) (v := ?_) rfl (by kernel_rfl) (by kernel_rfl) (by kernel_rfl) (fun _ _ _ h => h) (Or.inl ⟨by rfl, ?_⟩) (by assumption) ?_; rotate_left; (intro w hSw; (try dsimp only at hSw); go_simp; (first | done | (with_reducible rfl))); (try simp only [List.getElem_toArray, List.getElem_cons_succ, List.getElem_cons_zero, Act.put, List.setIfInBounds_toArray, List.set_cons_zero, List.set_cons_succ])
      refine wpAnyH_ready (rs := [8]) (by kernel_rfl) (by simp) ?_; refine AllReadyH.cons rfl (fun K hK => ?_) AllReadyH.nil
      refine step_copy_row rfl (.tmp 46) (.tmp 50) rfl rfl rfl hrD hXD (by simp) (by simpa using hc) (by simp) ?_
      intro w4 hr4 hg4
      refine hK.out _ _ ⟨hg4.cell hcgD (by simpa using Ne.symm hgl), hg4.cell hcaD (by simp; omega), hg4.cell hboxD (by simp; omega)⟩ (fun hHeld => ?_)
      clear hK K
      (try simp only [List.getElem_toArray, List.getElem_cons_succ, List.getElem_cons_zero, Act.put, List.setIfInBounds_toArray, List.set_cons_zero, List.set_cons_succ])
      refine wpAnyH_done (by kernel_rfl) ?_ _
      go_wp2_with fail
      have hG4 := hGD.copy hil hg4 hr4
      rw [topAt_put i _ hP.out] at hG4
      exact ⟨⟨i + 1, by omega, by go_num, hG4, hBD.trans (below_of_grown hg4 (Nat.le_trans hz3 hBD.size) (by intro t ht; cases ht; omega))⟩, by simp [intOf]; omega⟩
    · obtain rfl : i = l.length := by omega
      go_wp2_with fail
      go_ret2
      exact ⟨g, blk, rfl, (hGr.lower (by omega)).congr (topAt_end _ _ _), hBw⟩

end Go.Proofs.YtibidlgikecelaaDoor

namespace Go.Proofs.YtibidlgikecelaaDoor
open Go.RowKit
set_option linter.unusedVariables false
set_option linter.unusedSimpArgs false

set_option maxHeartbeats 400000 in
set_option maxRecDepth 100000 in
theorem eqt_calls {w : World} {A B : Option Addr} {n m a b : Nat} {vA vB : List Value} {L K : List (List B8)} (hA : At w A vA) (hLA : Texts w vA L) (hB : At w B vB) (hLB : Texts w vB K) (hn : n = L.length) (hm : m = K.length) (hmax : L.length ≤ 5864062014634) :
    Calls Tryd.prog 62 #[.slice A n a, .slice B m b, .func (.func 51) #[] #[]] w fun e w' => e = .returned (.bool (decide (L = K))) ∧ w = w' := by
  subst hn hm
  by_cases hlen : L.length = K.length
  · have hne : ((L.length : Int) != (K.length : Int)) = false := by simp; omega
    have HLen := Lib.hid hlen
    clear hlen
    generalize hr : decide (L = K) = r
    have HR := Lib.hid hr
    clear hr
    go_enter Tryd.func62, Tryd.ntmps62
    go_wp2_with fail
    go_loop [17] (fun s => ∃ j : Nat, j ≤ L.length ∧ s = .int .i64 ((j : Nat) : Int) ∧ ∀ i, i < j → L[i]? = K[i]?) (fun s => L.length - (intOf s).toNat)
    case atStart => exact ⟨0, by omega, rfl, by intro i hi; omega⟩
    case round =>
      obtain ⟨j, hj, rfl, hall⟩ := hrel
      have HALL := Lib.hid hall
      clear hall
      by_cases hjl : j < L.length
      · have hji : (j : Int) < (L.length : Int) := by omega
        have hjk : j < K.length := by have := HLen.out; omega
        have hjki : (j : Int) < (K.length : Int) := by omega
        have hlA : L[j]? = some L[j] := List.getElem?_eq_getElem hjl
        have hlB : K[j]? = some K[j] := List.getElem?_eq_getElem hjk
        obtain ⟨ba, oa, rfl, hba⟩ := heads_some hA hLA (by omega)
        obtain ⟨bb, ob, rfl, hbb⟩ := heads_some hB hLB (by omega)
        generalize L[j] = l at *
        generalize K[j] = k at *
        obtain ⟨X, cx, hcx, hX, _, _⟩ := head_at hA hLA hlA
        obtain ⟨Y, cy, hcy, hY, _, _⟩ := head_at hB hLB hlB
        have HLA := Lib.hid hlA
        have HLB := Lib.hid hlB
        have HC := equal_calls (c := cx) (d := cy) hX hY rfl rfl
        clear hlA hlB
        by_cases hlk : l = k
        · rw [decide_eq_true hlk] at HC
          have HLK := Lib.hid hlk
          replace HC := Lib.hid HC
          clear hlk
          go_wp2_with fail
          refine HC.out.mono ?_
          rintro e w' ⟨rfl, rfl⟩
          go_wp2_with fail
          refine ⟨⟨j + 1, by omega, by go_num, fun i hi => ?_⟩, by simp [intOf]; omega⟩
          by_cases hij : i < j
          · exact HALL.out i hij
          · obtain rfl : i = j := by omega
            rw [HLA.out, HLB.out, HLK.out]
        · rw [decide_eq_false hlk] at HC
          have HLK := Lib.hid hlk
          replace HC := Lib.hid HC
          clear hlk
          go_wp2_with fail
          refine HC.out.mono ?_
          rintro e w' ⟨rfl, rfl⟩
          go_wp2_with fail
          go_ret
          refine ⟨ret_bool ?_, rfl⟩
          rw [← HR.out]
          refine (decide_eq_false fun he => HLK.out ?_).symm
          have := HLA.out
          rw [he, HLB.out] at this
          exact (Option.some.inj this).symm
      · obtain rfl : j = L.length := by omega
        go_wp2_with fail
        go_ret
        refine ⟨ret_bool ?_, rfl⟩
        rw [← HR.out]
        refine (decide_eq_true ?_).symm
        apply List.ext_getElem?
        intro i
        by_cases hi : i < L.length
        · exact HALL.out i hi
        · rw [List.getElem?_eq_none (by omega), List.getElem?_eq_none (by have := HLen.out; omega)]
  · have hne : ((L.length : Int) != (K.length : Int)) = true := by simp; omega
    rw [decide_eq_false (fun h : L = K => hlen (by rw [h]))]
    clear hlen
    go_enter Tryd.func62, Tryd.ntmps62
    go_wp2_with fail
    go_ret
    exact ⟨rfl, rfl⟩

set_option maxHeartbeats 400000 in
theorem sametexts_calls {w : World} {A B : Option Addr} {n m a b : Nat} {vA vB : List Value} {L K : List (List B8)} (hA : At w A vA) (hLA : Texts w vA L) (hB : At w B vB) (hLB : Texts w vB K) (hn : n = L.length) (hm : m = K.length) (hmax : L.length ≤ 5864062014634) :
    Calls Tryd.prog 26 #[.slice A n a, .slice B m b] w fun e w' => e = .returned (.bool (decide (L = K))) ∧ w = w' := by
  have HC := Lib.hid (eqt_calls (a := a) (b := b) hA hLA hB hLB hn hm hmax)
  generalize decide (L = K) = r at *
  subst hn hm
  go_enter Tryd.func26, Tryd.ntmps26
  go_wp2_with fail
  refine HC.out.mono ?_
  rintro e w' ⟨rfl, rfl⟩
  go_wp2_with fail
  go_ret
  exact ⟨rfl, rfl⟩

/-- append(heads, head...) -/
theorem wp_app_head {w : World} {o : Oper} {a : Act} {K : Act → World → Prop} {Q : Exit → Act → World → Prop}
    (s x : Operand) (hop : o.op = Op.call { callee := Callee.builtin Builtin.append, args := #[s, x], argTypes := #[24, 24] })
    (base : Nat) {v : Value} {n : Nat} {xs : List Value} (hs : a.eval s = v) (hown : w.ownsRow base 22 1 v n xs)
    {A : Option Addr} {m c : Nat} (hx : a.eval x = .slice A m c) {news : List Value} (hl : news.length = m) (hA : At w A news) (h1 : ∀ u ∈ news, u.oneCell' = true)
    (hnil : A = none → c = 0) (hbytes : n + m ≤ 5864062014634) (hbase : base ≤ w.heap.size)
    (hK : ∀ A' c' w', w'.ownsRow base 22 1 (.slice A' (n + m) c') (n + m) (xs ++ news) → Below base w w' → w.grownBy w' v.ownBlock → n + m ≤ c' →
      K (a.put o.dst (.slice A' (n + m) c')) w') :
    o.wp Tryd.prog a w K Q := by
  obtain ⟨i, hi, hz0, hz1, hz2⟩ := info_parts headinfo
  exact wp_app w s x 24 hop base 22 i (.slice none 0 0) 1 24 Tryd.underlying24 hi hz0 hz1 hz2 rfl (by decide) v n xs hs hown A m c hx news (by simpa using hl) hA h1 hnil
    (by unfold maxLen; omega) (by omega) hbase fun A' c' w' h1 h2 h3 h4 => hK A' c' w' h1 h2 h3.1 h4
theorem app_head {w : World} {ops : Array Oper} {rest : List Oper} {o : Oper} {a : Act} {Q : Exit → Act → World → Prop}
    (hg : o.guard = none) (s x : Operand) (hop : o.op = Op.call { callee := Callee.builtin Builtin.append, args := #[s, x], argTypes := #[24, 24] })
    (base : Nat) {v : Value} {n : Nat} {xs : List Value} (hs : a.eval s = v) (hown : w.ownsRow base 22 1 v n xs)
    {A : Option Addr} {m c : Nat} (hx : a.eval x = .slice A m c) {news : List Value} (hl : news.length = m) (hA : At w A news) (h1 : ∀ u ∈ news, u.oneCell' = true)
    (hnil : A = none → c = 0) (hbytes : n + m ≤ 5864062014634) (hbase : base ≤ w.heap.size)
    (hK : ∀ A' c' w', w'.ownsRow base 22 1 (.slice A' (n + m) c') (n + m) (xs ++ news) → Below base w w' → w.grownBy w' v.ownBlock → n + m ≤ c' →
      wpList Tryd.prog ops Q rest (a.put o.dst (.slice A' (n + m) c')) w') :
    wpList Tryd.prog ops Q (o :: rest) a w :=
  wpList_plain hg fun _ hK' => wp_app_head s x hop base hs hown hx hl hA h1 hnil hbytes hbase fun A' c' w' h1 h2 h3 h4 => hK' _ _ (hK A' c' w' h1 h2 h3 h4)

/-- Rows of one's own, their heads in a slice of one's own. -/
structure OwnG (w : World) (B : Nat) (A : Option Addr) (cap : Nat) (blk : Nat → Nat) (r c : Nat) (M : Mx) : Prop where
  own : w.ownsRow B 22 1 (.slice A r cap) r (headsV blk r c)
  row : ∀ i, i < r → RowB w (blk i) (rowL c (M i))
  inj : ∀ i j, i < r → j < r → blk i = blk j → i = j
  geB : ∀ i, i < r → B ≤ blk i

theorem RowB.ne_own {w : World} {k B sz n : Nat} {l : List B8} {v : Value} {xs : List Value} (h : RowB w k l) (ho : w.ownsRow B 22 sz v n xs) : some k ≠ v.ownBlock := by
  intro he
  rcases ho.2 with ⟨rfl, _⟩ | ⟨g, cap, cur, rfl, _, hg, _⟩
  · cases he
  · simp only [Value.ownBlock, Option.some.injEq] at he
    unfold RowB at h
    rw [he, hg] at h
    injection h with h
    injection h with _ h _
    exact absurd h (by decide)
section
variable {w w' : World} {B r c cap : Nat} {A : Option Addr} {blk : Nat → Nat} {M : Mx}
theorem OwnG.nil (w : World) (B c : Nat) (blk : Nat → Nat) (M : Mx) : OwnG w B none 0 blk 0 c M :=
  ⟨World.ownsRow_nil _ _ _ _, fun i hi => absurd hi (Nat.not_lt_zero _), fun i j hi => absurd hi (Nat.not_lt_zero _), fun i hi => absurd hi (Nat.not_lt_zero _)⟩
theorem OwnG.at (h : OwnG w B A cap blk r c M) : At w A (headsV blk r c) := own_at h.own
theorem OwnG.texts (h : OwnG w B A cap blk r c M) (hm : c ≤ 140737488351232) : Texts w (headsV blk r c) (rowsL r c M) := by
  refine ⟨by simp, ?_⟩
  intro i v l h1 h2
  have hi : i < r := by
    rcases Nat.lt_or_ge i r with h | h
    · exact h
    · rw [List.getElem?_eq_none (by simpa using h)] at h1; cases h1
  rw [headsV_get hi] at h1
  rw [rowsL_get hi] at h2
  cases h1; cases h2
  exact (h.row i hi).row (by simp) hm
theorem OwnG.below (h : OwnG w B A cap blk r c M) (hb : Below w.heap.size w w') : OwnG w' B A cap blk r c M :=
  ⟨own_below h.own hb, fun i hi => (h.row i hi).below hb (h.row i hi).lt, h.inj, h.geB⟩
theorem OwnG.lower (h : OwnG w B A cap blk r c M) {B' : Nat} (hB : B' ≤ B) : OwnG w B' A cap blk r c M :=
  ⟨own_lower h.own hB, h.row, h.inj, fun i hi => Nat.le_trans hB (h.geB i hi)⟩
theorem OwnG.congr (h : OwnG w B A cap blk r c M) {N : Mx} (hN : EqM r c M N) : OwnG w B A cap blk r c N :=
  ⟨h.own, fun i hi => by have := h.row i hi; rwa [rowL_congr (fun j hj => hN i j hi hj)] at this, h.inj, h.geB⟩
theorem OwnG.le (h : OwnG w B A cap blk r c M) : r ≤ cap := own_le h.own
theorem OwnG.nilA (h : OwnG w B A cap blk r c M) : A = none → cap = 0 := own_nil h.own
/-- A row is changed. -/
theorem OwnG.setRow (h : OwnG w B A cap blk r c M) {i : Nat} (hi : i < r) {f : Nat → B8} (hg : w.grownBy w' (some (blk i))) (hr : RowB w' (blk i) (rowL c f)) :
    OwnG w' B A cap blk r c (putR M i f) := by
  refine ⟨h.own.kept hg ?_, fun k hk => ?_, h.inj, h.geB⟩
  · cases hv : (Value.slice A r cap).ownBlock with
    | none => exact .inl rfl
    | some b => right; intro he; exact (h.row i hi).ne_own h.own (by rw [hv, he])
  · by_cases hki : k = i
    · subst hki
      show RowB w' (blk k) (rowL c (if k = k then f else M k))
      rw [if_pos rfl]; exact hr
    · show RowB w' (blk k) (rowL c (if k = i then f else M k))
      rw [if_neg hki]
      exact (h.row k hk).grown hg (by simpa using fun he => hki (h.inj k i hk hi he))
/-- A head's cell. -/
theorem OwnG.cell (h : OwnG w B A cap blk r c M) {i : Nat} (hi : i < r) : ∃ g, A = some ⟨g, 0, none⟩ ∧ B ≤ g ∧ w.cell? ⟨g, i, none⟩ = some (.slice (some ⟨blk i, 0, none⟩) c c) ∧ (∀ k, k < r → blk k ≠ g) ∧ w.frozen? ⟨g, i, none⟩ = false := by
  obtain ⟨b, off, he, hc⟩ := h.at i _ (headsV_get hi)
  rcases h.own.2 with ⟨hv, hn⟩ | ⟨g, cap', cur, hv, hg, hh, hnc, hcm, hs, ht⟩
  · subst hn; exact absurd hi (Nat.not_lt_zero _)
  · injection hv with hA hn hc'
    subst hA
    simp only [Option.some.injEq, Addr.mk.injEq, and_true] at he
    obtain ⟨hb1, hb2⟩ := he
    rw [← hb1, ← hb2, Nat.zero_add] at hc
    refine ⟨g, rfl, hg, hc, fun k hk hkg => ?_, h.own.frozenAt i⟩
    exact (h.row k hk).ne_own h.own (by rw [hkg]; rfl)
/-- One more row. -/
theorem OwnG.snoc {A' : Option Addr} {cap' rb : Nat} {f : Nat → B8} (h : OwnG w B A cap blk r c M) (hr : RowB w rb (rowL c f)) (hrb : B ≤ rb) (hne : ∀ i, i < r → blk i ≠ rb)
    (ho : w'.ownsRow B 22 1 (.slice A' (r + 1) cap') (r + 1) (headsV blk r c ++ [.slice (some ⟨rb, 0, none⟩) c c])) (hg : w.grownBy w' (Value.slice A r cap).ownBlock) (hM : M r = f) :
    OwnG w' B A' cap' (fun k => if k = r then rb else blk k) (r + 1) c M := by
  have hv : headsV blk r c ++ [.slice (some ⟨rb, 0, none⟩) c c] = headsV (fun k => if k = r then rb else blk k) (r + 1) c := by
    unfold headsV
    rw [List.range_succ, List.map_append]
    congr 1
    · refine List.map_congr_left fun k hk => ?_
      have : k ≠ r := by have : k < r := by simpa using hk
                         omega
      simp [this]
    · simp
  rw [hv] at ho
  refine ⟨ho, fun k hk => ?_, fun i j hi hj he => ?_, fun k hk => ?_⟩
  · by_cases hkr : k = r
    · subst hkr; simp only [if_true, hM]; exact hr.grown hg (hr.ne_own h.own)
    · simp only [if_neg hkr]; exact (h.row k (by omega)).grown hg ((h.row k (by omega)).ne_own h.own)
  · by_cases hir : i = r <;> by_cases hjr : j = r
    · omega
    · simp only [hir, hjr, if_true, if_false] at he; exact absurd he.symm (hne j (by omega))
    · simp only [hir, hjr, if_true, if_false] at he; exact absurd he (hne i (by omega))
    · simp only [hir, hjr, if_false] at he; exact h.inj i j (by omega) (by omega) he
  · by_cases hkr : k = r
    · subst hkr; simp only [if_true]; exact hrb
    · simp only [if_neg hkr]; exact h.geB k (by omega)
theorem Grid.ownG {g : Nat} (h : Grid w B g blk r c M) (hm : r ≤ maxLen) : OwnG w B (some ⟨g, 0, none⟩) r blk r c M :=
  ⟨⟨by simp, .inr ⟨g, r, _, rfl, h.geG, h.top, Nat.le_refl _, hm, by simp, by simp [List.take_of_length_le]⟩⟩, h.row, h.inj, h.geB⟩
end

end Go.Proofs.YtibidlgikecelaaDoor
