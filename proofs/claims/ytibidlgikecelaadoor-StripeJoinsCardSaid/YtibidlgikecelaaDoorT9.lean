/- Words for amphoraref02.Invert: two matrices in rows of their own, elimination step by step. -/
import Derived.Test.YtibidlgikecelaaDoorTB
namespace Go.Proofs.YtibidlgikecelaaDoor
open Go.RowKit
set_option linter.unusedVariables false
set_option linter.unusedSimpArgs false

theorem share {G P : Prop} (h : G → P) (g : G) : P := h g
/-- Two matrices, apart. -/
structure Pair (w : World) (B gL cL : Nat) (bL pL : Nat → Nat) (gO cO : Nat) (bO pO : Nat → Nat) (n : Nat) (L O : Mx) : Prop where
  l : OwnW w B gL cL bL pL n n L
  o : OwnW w B gO cO bO pO n n O
  gg : gL ≠ gO
  bb : ∀ i k, i < n → k < n → bL i ≠ bO k
theorem OwnW.ne2 {w : World} {B B' g g' c c' r r' m m' : Nat} {b b' p p' : Nat → Nat} {M M' : Mx} (h : OwnW w B g c b p r m M) (h' : OwnW w B' g' c' b' p' r' m' M') {k : Nat} (hk : k < r') : b' k ≠ g := by
  intro he
  have := own_ne (h'.row k hk) h.own (by decide) g rfl
  exact this (by rw [← he]; rfl)
section
variable {w w' : World} {B gL cL gO cO n : Nat} {bL pL bO pO : Nat → Nat} {L O : Mx}
theorem Pair.below (h : Pair w B gL cL bL pL gO cO bO pO n L O) (hb : Below w.heap.size w w') : Pair w' B gL cL bL pL gO cO bO pO n L O := ⟨h.l.below hb, h.o.below hb, h.gg, h.bb⟩
theorem Pair.congr (h : Pair w B gL cL bL pL gO cO bO pO n L O) {L' O' : Mx} (hL : EqM n n L L') (hO : EqM n n O O') : Pair w B gL cL bL pL gO cO bO pO n L' O' := ⟨h.l.congr hL, h.o.congr hO, h.gg, h.bb⟩
theorem swapF_bb {b b' : Nat → Nat} {n c p : Nat} (h : ∀ i k, i < n → k < n → b i ≠ b' k) (hc : c < n) (hp : p < n) : ∀ i k, i < n → k < n → swapF b c p i ≠ b' k := by
  intro i k hi hk
  rw [swapF_at]
  exact h _ k (swapN_lt hc hp hi) hk
theorem swapF_bb' {b b' : Nat → Nat} {n c p : Nat} (h : ∀ i k, i < n → k < n → b i ≠ b' k) (hc : c < n) (hp : p < n) : ∀ i k, i < n → k < n → b i ≠ swapF b' c p k := by
  intro i k hi hk
  rw [swapF_at]
  exact h i _ hi (swapN_lt hc hp hk)
theorem Pair.swapL (h : Pair w B gL cL bL pL gO cO bO pO n L O) {i p : Nat} (hi : i < n) (hp : p < n) :
    Pair ((w.setCell ⟨gL, i, none⟩ (.slice (some ⟨bL p, 0, none⟩) n (pL p))).setCell ⟨gL, p, none⟩ (.slice (some ⟨bL i, 0, none⟩) n (pL i))) B gL cL (swapF bL i p) (swapF pL i p) gO cO bO pO n (swapM i p L) O :=
  ⟨h.l.swap hi hp, (h.o.keep (grown_set w gL i _) (Ne.symm h.gg) (fun k hk => h.l.ne2 h.o hk)).keep (grown_set _ gL p _) (Ne.symm h.gg) (fun k hk => h.l.ne2 h.o hk), h.gg, swapF_bb h.bb hi hp⟩
theorem Pair.swapO (h : Pair w B gL cL bL pL gO cO bO pO n L O) {i p : Nat} (hi : i < n) (hp : p < n) :
    Pair ((w.setCell ⟨gO, i, none⟩ (.slice (some ⟨bO p, 0, none⟩) n (pO p))).setCell ⟨gO, p, none⟩ (.slice (some ⟨bO i, 0, none⟩) n (pO i))) B gL cL bL pL gO cO (swapF bO i p) (swapF pO i p) n L (swapM i p O) :=
  ⟨(h.l.keep (grown_set w gO i _) h.gg (fun k hk => h.o.ne2 h.l hk)).keep (grown_set _ gO p _) h.gg (fun k hk => h.o.ne2 h.l hk), h.o.swap hi hp, h.gg, swapF_bb' h.bb hi hp⟩
theorem Pair.chgL (h : Pair w B gL cL bL pL gO cO bO pO n L O) {i : Nat} (hi : i < n) {f : Nat → B8} (hg : w.grownBy w' (some (bL i))) (hr : w'.ownsRow B 5 1 (.slice (some ⟨bL i, 0, none⟩) n (pL i)) n (bys (rowL n f))) :
    Pair w' B gL cL bL pL gO cO bO pO n (putR L i f) O :=
  ⟨h.l.setRow hi hg hr, h.o.keep hg (fun he => h.o.ne2 h.l hi he.symm) (fun k hk he => h.bb i k hi hk he.symm), h.gg, h.bb⟩
theorem Pair.chgO (h : Pair w B gL cL bL pL gO cO bO pO n L O) {i : Nat} (hi : i < n) {f : Nat → B8} (hg : w.grownBy w' (some (bO i))) (hr : w'.ownsRow B 5 1 (.slice (some ⟨bO i, 0, none⟩) n (pO i)) n (bys (rowL n f))) :
    Pair w' B gL cL bL pL gO cO bO pO n L (putR O i f) :=
  ⟨h.l.keep hg (fun he => h.l.ne2 h.o hi he.symm) (fun k hk he => h.bb k i hk hi he), h.o.setRow hi hg hr, h.gg, h.bb⟩
theorem Pair.putL (h : Pair w B gL cL bL pL gO cO bO pO n L O) {i : Nat} (hi : i < n) (j : Nat) (x : B8) : Pair (w.setCell ⟨bL i, j, none⟩ (bv x)) B gL cL bL pL gO cO bO pO n (putR L i (fun k => if k = j then x else L i k)) O :=
  h.chgL hi (grown_set _ _ _ _) (by rw [← rowL_set]; exact own_store (h.l.row i hi) j x)
theorem Pair.putO (h : Pair w B gL cL bL pL gO cO bO pO n L O) {i : Nat} (hi : i < n) (j : Nat) (x : B8) : Pair (w.setCell ⟨bO i, j, none⟩ (bv x)) B gL cL bL pL gO cO bO pO n L (putR O i (fun k => if k = j then x else O i k)) :=
  h.chgO hi (grown_set _ _ _ _) (by rw [← rowL_set]; exact own_store (h.o.row i hi) j x)
end
theorem pivot_at {n c p : Nat} {W : Mx} (h1 : c ≤ p) (h2 : p < n) (h3 : W p c ≠ 0#8) (h : ∀ q, c ≤ q → q < p → W q c = 0#8) : pivotM n c W = some p := by
  obtain ⟨j, rfl⟩ : ∃ j, p = c + j := ⟨p - c, by omega⟩
  exact (pivZ_at h2 h3 fun i hi => h (c + i) (by omega) (by omega)).1
theorem pivot_no {n c : Nat} {W : Mx} (h : ∀ q, c ≤ q → q < n → W q c = 0#8) : pivotM n c W = none := (pivZ_no fun i hi => h (c + i) (by omega) hi).1
/-- All rows but one, of one of two, cleared up to a place. -/
def clearPAt (c : Nat) (V U : Mx) (i : Nat) : Mx := fun r j => if r = c then gm (U c j) (gi (V c c)) else if r < i then U r j ^^^ gm (gm (U c j) (gi (V c c))) (V r c) else U r j
theorem clearPAt_start (c n : Nat) (V U : Mx) : EqM n n (scaleAt c U (gi (V c c)) n) (clearPAt c V U 0) := by
  intro i j hi hj
  unfold scaleAt putR clearPAt
  by_cases h : i = c
  · subst h; simp [hj]
  · simp [h]
theorem clearPAt_same (c : Nat) (V U : Mx) {i : Nat} (h : i = c ∨ V i c = 0#8) : clearPAt c V U i = clearPAt c V U (i + 1) := by
  funext r j
  unfold clearPAt
  by_cases hr : r = c
  · simp [hr]
  · by_cases h2 : r < i
    · have : r < i + 1 := by omega
      simp [hr, h2, this]
    · by_cases h3 : r = i
      · subst h3
        rcases h with h | h
        · exact absurd h hr
        · simp [hr, h, gm_zero]
      · have : ¬ r < i + 1 := by omega
        simp [hr, h2, this]
theorem clearPAt_x (c : Nat) (V : Mx) {i : Nat} (h : i ≠ c) : clearPAt c V V i i c = V i c := by simp [clearPAt, h]
theorem clearPAt_step (c : Nat) (V U : Mx) {i : Nat} (h : i ≠ c) : putR (clearPAt c V U i) i (addR (clearPAt c V U i i) (clearPAt c V U i c) (V i c)) = clearPAt c V U (i + 1) := by
  funext r j
  unfold putR
  by_cases hr : r = i
  · subst hr
    rw [if_pos rfl]
    unfold addR clearPAt
    simp [h]
  · rw [if_neg hr]
    unfold clearPAt
    have : (r < i + 1) = (r < i) := by simp; omega
    simp [this]
theorem clearPAt_end (c n : Nat) (V U : Mx) : EqM n n (clearPAt c V U n) (clearP c V U) := by
  intro i j hi hj
  unfold clearPAt clearP
  simp [hi]

end Go.Proofs.YtibidlgikecelaaDoor
