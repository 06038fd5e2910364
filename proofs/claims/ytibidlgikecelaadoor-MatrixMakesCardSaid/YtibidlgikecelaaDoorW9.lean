/- Contract: matrix.Mul. -/
import Derived.Test.YtibidlgikecelaaDoorW8
namespace Go.Proofs.YtibidlgikecelaaDoor
open Go.RowKit
set_option linter.unusedVariables false
set_option linter.unusedSimpArgs false

theorem Grid.lower {w : World} {B B' g r c : Nat} {blk : Nat → Nat} {M : Mx} (h : Grid w B g blk r c M) (hB : B' ≤ B) : Grid w B' g blk r c M :=
  ⟨h.top, h.row, h.inj, Nat.le_trans hB h.geG, fun i hi => Nat.le_trans hB (h.geB i hi)⟩
/-- A call answers a grid of its own, and OK. -/
def RetM (w : World) (r c : Nat) (M : Mx) (e : Ending) (w' : World) : Prop :=
  ∃ g blk, e = .returned (.tuple #[.slice (some ⟨g, 0, none⟩) r r, .int .i64 0]) ∧ Grid w' w.heap.size g blk r c M ∧ Below w.heap.size w w'
/-- A call answers nothing, and why. -/
def RetE (w : World) (k : Int) (e : Ending) (w' : World) : Prop := e = .returned (.tuple #[.slice none 0 0, .int .i64 k]) ∧ Below w.heap.size w w'

theorem At.lt {w : World} {A : Option Addr} {vs : List Value} (h : At w A vs) (hne : 0 < vs.length) : ∀ b off, A = some ⟨b, off, none⟩ → b < w.heap.size := by
  intro b off he
  obtain ⟨b', off', he', hc⟩ := h 0 vs[0] (List.getElem?_eq_getElem hne)
  rw [he] at he'
  cases he'
  exact block_lt hc
/-- A row's head. -/
theorem head_at {w : World} {b off i : Nat} {vs : List Value} {L : List (List B8)} {l : List B8} (hA : At w (some ⟨b, off, none⟩) vs) (hL : Texts w vs L) (hl : L[i]? = some l) :
    ∃ X cx, w.cell? ⟨b, off + i, none⟩ = some (.slice X l.length cx) ∧ At w X (bys l) ∧ l.length ≤ cx ∧ (X = none → cx = 0) := by
  have hi : i < L.length := (List.getElem?_eq_some_iff.1 hl).1
  have hiv : i < vs.length := by rw [hL.1]; exact hi
  obtain ⟨X, cx, hv, hXA, h2, h3, h4⟩ := hL.2 i vs[i] l (List.getElem?_eq_getElem hiv) hl
  obtain ⟨b', off', he, hc⟩ := hA i vs[i] (List.getElem?_eq_getElem hiv)
  cases he
  rw [hv] at hc
  exact ⟨X, cx, hc, hXA, h2, h3⟩
theorem heads_some {w : World} {A : Option Addr} {vs : List Value} {L : List (List B8)} (hA : At w A vs) (hL : Texts w vs L) (h : 0 < L.length) : ∃ b off, A = some ⟨b, off, none⟩ ∧ b < w.heap.size := by
  obtain ⟨b, off, rfl⟩ := some_of_at hA (by rw [hL.1]; exact h)
  exact ⟨b, off, rfl, hA.lt (by rw [hL.1]; exact h) b off rfl⟩
theorem row_head {w : World} {b off i r c : Nat} {M : Mx} {vs : List Value} (hA : At w (some ⟨b, off, none⟩) vs) (hL : Texts w vs (rowsL r c M)) (hi : i < r) :
    ∃ X cx, w.cell? ⟨b, off + i, none⟩ = some (.slice X c cx) ∧ At w X (bys (rowL c (M i))) ∧ c ≤ cx ∧ (X = none → cx = 0) := by
  obtain ⟨X, cx, h1, h2, h3, h4⟩ := head_at hA hL (rowsL_get hi)
  rw [length_rowL] at h1 h3
  exact ⟨X, cx, h1, h2, h3, h4⟩
theorem row_byte {w : World} {X : Option Addr} {c k : Nat} {f : Nat → B8} (h : At w X (bys (rowL c f))) (hk : k < c) : ∃ b off, X = some ⟨b, off, none⟩ ∧ w.cell? ⟨b, off + k, none⟩ = some (.int .u8 ((f k).toNat : Int)) := by
  obtain ⟨b, off, he, hc⟩ := h.byte (k := k) (by simpa using hk)
  rw [show (rowL c f)[k]'(by simpa using hk) = f k from by simp [rowL]] at hc
  exact ⟨b, off, he, hc⟩

set_option maxHeartbeats 800000 in
set_option maxRecDepth 100000 in
theorem matmul_calls {w : World} {A B : Option Addr} {r n c cA cB : Nat} {vA vB : List Value} {MA MB : Mx} (hA : At w A vA) (hLA : Texts w vA (rowsL r n MA)) (hB : At w B vB) (hLB : Texts w vB (rowsL n c MB))
    (hr : 0 < r) (hr2 : r ≤ 255) (hn : 0 < n) (hn2 : n ≤ 255) (hc : 0 < c) (hc2 : c ≤ 255) (hF : FoldAt w) :
    Calls Tryd.prog 24 #[.slice A r cA, .slice B n cB] w (RetM w r c (mulM n MA MB)) := by
  have hri : (0 : Int) < (r : Int) := by omega
  have hni : (0 : Int) < (n : Int) := by omega
  obtain ⟨ba, oa, rfl, hba⟩ := heads_some hA hLA (by simpa using hr)
  obtain ⟨bb, ob, rfl, hbb⟩ := heads_some hB hLB (by simpa using hn)
  obtain ⟨XA0, cA0, hA0, _, _, _⟩ := row_head hA hLA hr
  obtain ⟨XB0, cB0, hB0, _, _, _⟩ := row_head hB hLB hn
  rw [Nat.add_zero] at hA0 hB0
  have hisA := Lib.hid (is_calls (c := cA) hA hLA (by simp : r = _))
  rw [rowsL_isB MA hr hr2 hn hn2] at hisA
  have hnn : ((n : Int) != (n : Int)) = false := by simp
  go_enter Tryd.func24, Tryd.ntmps24
  go_wp2_with fail
  refine hisA.out.mono ?_
  rintro e w1 ⟨rfl, hb1⟩
  have hisB := Lib.hid (is_calls (c := cB) (hB.below hb1) (hLB.below hb1) (by simp : n = _))
  rw [rowsL_isB MB hn hn2 hc hc2] at hisB
  go_wp2_with fail
  refine hisB.out.mono ?_
  rintro e w2 ⟨rfl, hb2⟩
  have hB2 : Below w.heap.size w w2 := hb1.trans (hb2.mono hb1.size)
  have hA02 := (hB2.cell (p := ⟨ba, oa, none⟩) hba).trans hA0
  have hB02 := (hB2.cell (p := ⟨bb, ob, none⟩) hbb).trans hB0
  go_wp2_with fail
  refine (grid_calls (r := r) (c := c) (by omega) (by omega)).mono ?_
  rintro e w3 ⟨g, blk, rfl, hG, hb3⟩
  have hB3 : Below w.heap.size w w3 := hB2.trans (hb3.mono hB2.size)
  have hgB : w.heap.size ≤ g := Nat.le_trans hB2.size hG.geG
  have hblkB : ∀ i, i < r → w.heap.size ≤ blk i := fun i hi => Nat.le_trans hB2.size (hG.geB i hi)
  clear hA02 hB02 hb3
  go_wp2_with fail
  go_loopw [37] (fun s wr => ∃ i : Nat, i ≤ r ∧ s = .int .i64 ((i : Nat) : Int) ∧ Grid wr w2.heap.size g blk r c (mulAt n MA MB i 0) ∧ Below w.heap.size w wr) (fun s _ => r - (intOf s).toNat)
  case atStart => exact ⟨0, by omega, rfl, by rw [mulAt_start]; exact hG, hB3⟩
  case round =>
    obtain ⟨i, hi, rfl, hGr, hBr⟩ := hrel
    clear hG hB3
    by_cases hir : i < r
    · have hii : (i : Int) < (r : Int) := by omega
      obtain ⟨XA, cxa, hca, hXA, _, _⟩ := row_head hA hLA hir
      have hcaw := (hBr.cell (p := ⟨ba, oa + i, none⟩) hba).trans hca
      have hXn := hXA.lt (by simpa using hn)
      obtain ⟨bx, ox, rfl⟩ := some_of_at hXA (by simpa using hn)
      have hbx := hXn bx ox rfl
      go_wp2_with fail
      go_loopw [44] (fun s wr => ∃ k : Nat, k ≤ n ∧ s = .int .i64 ((k : Nat) : Int) ∧ Grid wr w2.heap.size g blk r c (mulAt n MA MB i k) ∧ Below w.heap.size w wr) (fun s _ => n - (intOf s).toNat)
      case atStart => exact ⟨0, by omega, rfl, hGr, hBr⟩
      case round =>
        obtain ⟨k, hk, rfl, hGs, hBs⟩ := hrel
        clear hGr hBr hcaw
        by_cases hkn : k < n
        · have hkk : (k : Int) < (n : Int) := by omega
          obtain ⟨_, _, he, hcx⟩ := row_byte hXA hkn
          cases he
          have hcxw := (hBs.cell (p := ⟨bx, ox + k, none⟩) hbx).trans hcx
          obtain ⟨XB, cxb, hcb, hXB, _, _⟩ := row_head hB hLB hkn
          have hcbw := (hBs.cell (p := ⟨bb, ob + k, none⟩) hbb).trans hcb
          have hcg := hGs.cell hir
          have hFs := FoldAt.below hF hBs
          have hXs := hXB.below hBs
          have hbl := hblkB i hir
          have hgl := hGs.ne hir
          have hrow := hGs.row i hir
          have HS := Lib.hid (mulAt_step n MA MB i k)
          have hBlt := hXB.lt (by simpa using hc)
          generalize MA i k = x at *
          go_wp2_with fail
          have hcgD : wr.drew.cell? ⟨g, i, none⟩ = some (.slice (some ⟨blk i, 0, none⟩) c c) := hcg
          have hcbD : wr.drew.cell? ⟨bb, ob + k, none⟩ = some (.slice XB c cxb) := hcbw
          refine wp_region_held_drew (S := fun w' => w'.cell? ⟨g, i, none⟩ = some (.slice (some ⟨blk i, 0, none⟩) c c) ∧ w'.cell? ⟨bb, ob + k, none⟩ = some (.slice XB c cxb)) (by kernel_rfl) ⟨hcgD, hcbD⟩ (fun hHeld => ?_)
          have hGD := hGs.below (belowN 1 : Below wr.heap.size wr (wr.drewN 1))
          have hrD : RowB wr.drew (blk i) (rowL c (mulAt n MA MB i k i)) := hrow
          have hXD : At wr.drew XB (bys (rowL c (MB k))) := hXs
          have hFD : FoldAt wr.drew := hFs
          have hBD : Below w.heap.size w wr.drew := hBs.trans ((belowN 1 : Below wr.heap.size wr (wr.drewN 1)).mono hBs.size)
          replace hGD : Grid wr.drew w2.heap.size g blk r c (mulAt n MA MB i k) := hGD
          generalize wr.drew = WD at *
          clear hcg hcbw hFs hXs hrow hGs
          refine wpAnyH_take (i := 0) (v := ?_) rfl (by kernel_rfl) (by kernel_rfl) (by kernel_rfl) (fun _ _ _ h => h) (Or.inl ⟨by rfl, ?_⟩) (by assumption) ?_; rotate_left; (intro w hSw; (try dsimp only at hSw); go_simp; (first | done | (with_reducible rfl))); (try simp only [List.getElem_toArray, List.getElem_cons_succ, List.getElem_cons_zero, Act.put, List.setIfInBounds_toArray, List.set_cons_zero, List.set_cons_succ])
          refine wpAnyH_take (i := 1) (v := ?_) rfl (by kernel_rfl) (by kernel_rfl) (by kernel_rfl) (fun _ _ _ h => h) (Or.inl ⟨by rfl, ?_⟩) (by assumption) ?_; rotate_left; (intro w hSw; (try dsimp only at hSw); go_simp; (first | done | (with_reducible rfl))); (try simp only [List.getElem_toArray, List.getElem_cons_succ, List.getElem_cons_zero, Act.put, List.setIfInBounds_toArray, List.set_cons_zero, List.set_cons_succ])
          refine wpAnyH_take (i := 4) (v := ?_) rfl (by kernel_rfl) (by kernel_rfl) (by kernel_rfl) (fun _ _ _ h => h) (Or.inl ⟨by rfl, ?_⟩) (by assumption) ?_; rotate_left; (intro w hSw; (try dsimp only at hSw); go_simp; (first | done | (with_reducible rfl))); (try simp only [List.getElem_toArray, List.getElem_cons_succ, List.getElem_cons_zero, Act.put, List.setIfInBounds_toArray, List.set_cons_zero, List.set_cons_succ])
          refine wpAnyH_take (i := 5) (v := ?_) rfl (by kernel_rfl) (by kernel_rfl) (by kernel_rfl) (fun _ _ _ h => h) (Or.inl ⟨by rfl, ?_⟩) (by assumption) ?_; rotate_left; (intro w hSw; (try dsimp only at hSw); go_simp; (first | done | (with_reducible rfl))); (try simp only [List.getElem_toArray, List.getElem_cons_succ, List.getElem_cons_zero, Act.put, List.setIfInBounds_toArray, List.set_cons_zero, List.set_cons_succ])
          refine wpAnyH_take (i := 8) (v := ?_) rfl (by kernel_rfl) (by kernel_rfl) (by kernel_rfl) (fun _ _ _ h => h) (Or.inl ⟨by rfl, ?_⟩) (by assumption) ?_; rotate_left; (intro w hSw; (try dsimp only at hSw); go_simp; (first | done | (with_reducible rfl))); (try simp only [List.getElem_toArray, List.getElem_cons_succ, List.getElem_cons_zero, Act.put, List.setIfInBounds_toArray, List.set_cons_zero, List.set_cons_succ])
          refine wpAnyH_take (i := 2) (v := ?_) rfl (by kernel_rfl) (by kernel_rfl) (by kernel_rfl) (fun _ _ _ h => h) (Or.inl ⟨by rfl, ?_⟩) (by assumption) ?_; rotate_left; (intro w hSw; (try dsimp only at hSw); go_simp; (first | done | (with_reducible rfl))); (try simp only [List.getElem_toArray, List.getElem_cons_succ, List.getElem_cons_zero, Act.put, List.setIfInBounds_toArray, List.set_cons_zero, List.set_cons_succ])
          refine wpAnyH_take (i := 3) (v := ?_) rfl (by kernel_rfl) (by kernel_rfl) (by kernel_rfl) (fun _ _ _ h => h) (Or.inl ⟨by rfl, ?_⟩) (by assumption) ?_; rotate_left; (intro w hSw; (try dsimp only at hSw); go_simp; (first | done | (with_reducible rfl))); (try simp only [List.getElem_toArray, List.getElem_cons_succ, List.getElem_cons_zero, Act.put, List.setIfInBounds_toArray, List.set_cons_zero, List.set_cons_succ])
          refine wpAnyH_take (i := 6) (v := ?_) rfl (by kernel_rfl) (by kernel_rfl) (by kernel_rfl) (fun _ _ _ h => h) (Or.inl ⟨by rfl, ?_⟩) (by assumption) ?_; rotate_left; (intro w hSw; (try dsimp only at hSw); go_simp; (first | done | (with_reducible rfl))); (try simp only [List.getElem_toArray, List.getElem_cons_succ, List.getElem_cons_zero, Act.put, List.setIfInBounds_toArray, List.set_cons_zero, List.set_cons_succ])
          refine wpAnyH_take (i := 7) (v := ?_) rfl (by kernel_rfl) (by kernel_rfl) (by kernel_rfl) (fun _ _ _ h => h) (Or.inl ⟨by rfl, ?_⟩) (by assumption) ?_; rotate_left; (intro w hSw; (try dsimp only at hSw); go_simp; (first | done | (with_reducible rfl))); (try simp only [List.getElem_toArray, List.getElem_cons_succ, List.getElem_cons_zero, Act.put, List.setIfInBounds_toArray, List.set_cons_zero, List.set_cons_succ])
          refine wpAnyH_ready (rs := [9]) (by kernel_rfl) (by simp) ?_; refine AllReadyH.cons rfl (fun K hK => ?_) AllReadyH.nil
          go_simp
          refine (gather_calls hrD hXD hFD (by omega) (fun b off he => by have := hBlt b off he; omega) (by omega)).mono ?_
          rintro e w4 ⟨rfl, hg4, hr4⟩
          go_wp2_with fail
          refine hK.out _ _ ⟨hg4.cell hcgD (by simpa using Ne.symm hgl), hg4.cell hcbD (by simp; omega)⟩ (fun hHeld => ?_)
          clear hK K
          (try simp only [List.getElem_toArray, List.getElem_cons_succ, List.getElem_cons_zero, Act.put, List.setIfInBounds_toArray, List.set_cons_zero, List.set_cons_succ])
          refine wpAnyH_done (by kernel_rfl) ?_ _
          go_wp2_with fail
          have hG4 := hGD.setRow hir hg4 hr4
          exact ⟨⟨k + 1, by omega, by go_num, by rw [← HS.out]; exact hG4, hBD.trans (below_of_grown hg4 hBD.size (by intro t ht; cases ht; omega))⟩, by simp [intOf]; omega⟩
        · obtain rfl : k = n := by omega
          go_wp2_with fail
          exact ⟨⟨i + 1, by omega, by go_num, by rw [← mulAt_next]; exact hGs, hBs⟩, by simp [intOf]; omega⟩
    · obtain rfl : i = r := by omega
      go_wp2_with fail
      go_ret2
      exact ⟨g, blk, rfl, (hGr.lower hB2.size).congr (mulAt_end _ _ _ _ _), hBr⟩

end Go.Proofs.YtibidlgikecelaaDoor
