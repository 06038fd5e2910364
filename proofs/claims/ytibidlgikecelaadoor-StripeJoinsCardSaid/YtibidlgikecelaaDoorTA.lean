/- Texts of one's own: amphoraplain.Texts, amphoraplain.Spoil. Lists of texts as matrices. Plain; no program in sight. A matrix in rows of one's own, whatever room they have: words for the document's elimination. -/
import Derived.Test.YtibidlgikecelaaDoorT2
namespace Go.Proofs.YtibidlgikecelaaDoor
open Go.RowKit
set_option linter.unusedVariables false
set_option linter.unusedSimpArgs false

/-- Texts of one's own, their heads in a slice of one's own. -/
structure OwnT (w : World) (B : Nat) (A : Option Addr) (cap : Nat) (vs : List Value) (LL : List (List B8)) : Prop where
  own : w.ownsRow B 22 1 (.slice A LL.length cap) LL.length vs
  len : vs.length = LL.length
  row : ∀ (k : Nat) v l, vs[k]? = some v → LL[k]? = some l → w.ownsRow B 5 1 v l.length (bys l) ∧ l.length ≤ 140737488351232
  sep : ∀ (i j : Nat) u v, i ≠ j → vs[i]? = some u → vs[j]? = some v → ∀ b, u.ownBlock = some b → v.ownBlock ≠ some b
variable {w w' : World} {B cap : Nat} {A : Option Addr} {vs : List Value} {LL : List (List B8)}
theorem OwnT.nil (w : World) (B : Nat) : OwnT w B none 0 [] [] :=
  ⟨World.ownsRow_nil _ _ _ _, rfl, fun k v l h => by simp at h, fun i j u v _ h => by simp at h⟩
theorem OwnT.at (h : OwnT w B A cap vs LL) : At w A vs := own_at h.own
theorem OwnT.texts (h : OwnT w B A cap vs LL) : Texts w vs LL := by
  refine ⟨h.len, fun k v l h1 h2 => ?_⟩
  obtain ⟨h3, h4⟩ := h.row k v l h1 h2
  obtain ⟨X, c, rfl, _⟩ := own_form h3
  exact own_row h3 h4
theorem OwnT.below (h : OwnT w B A cap vs LL) (hb : Below w.heap.size w w') : OwnT w' B A cap vs LL :=
  ⟨own_below h.own hb, h.len, fun k v l h1 h2 => ⟨own_below (h.row k v l h1 h2).1 hb, (h.row k v l h1 h2).2⟩, h.sep⟩
theorem OwnT.lower (h : OwnT w B A cap vs LL) {B' : Nat} (hB : B' ≤ B) : OwnT w B' A cap vs LL :=
  ⟨own_lower h.own hB, h.len, fun k v l h1 h2 => ⟨own_lower (h.row k v l h1 h2).1 hB, (h.row k v l h1 h2).2⟩, h.sep⟩
/-- One more text. -/
theorem OwnT.snoc {A' : Option Addr} {cap' : Nat} {v : Value} {l : List B8} (h : OwnT w B A cap vs LL) (hr : w.ownsRow B 5 1 v l.length (bys l)) (hl : l.length ≤ 140737488351232) (hne : ∀ (k : Nat) u, vs[k]? = some u → ∀ b, u.ownBlock = some b → v.ownBlock ≠ some b)
    (ho : w'.ownsRow B 22 1 (.slice A' (LL.length + 1) cap') (LL.length + 1) (vs ++ [v])) (hg : w.grownBy w' (Value.slice A LL.length cap).ownBlock) : OwnT w' B A' cap' (vs ++ [v]) (LL ++ [l]) := by
  refine ⟨by simpa using ho, by simp [h.len], ?_, ?_⟩
  · intro k u x h1 h2
    by_cases hk : k < vs.length
    · rw [List.getElem?_append_left hk] at h1
      rw [List.getElem?_append_left (by rw [← h.len]; exact hk)] at h2
      obtain ⟨h3, h4⟩ := h.row k u x h1 h2
      exact ⟨own_grown h3 hg (own_ne h.own h3 (by decide)), h4⟩
    · rw [List.getElem?_append_right (by omega)] at h1
      rw [List.getElem?_append_right (by rw [← h.len]; omega), ← h.len] at h2
      cases hkk : k - vs.length with
      | zero =>
        rw [hkk] at h1 h2
        cases h1; cases h2
        exact ⟨own_grown hr hg (own_ne h.own hr (by decide)), hl⟩
      | succ n => rw [hkk] at h1; simp at h1
  · intro i j u x hij h1 h2 b hb
    by_cases hi : i < vs.length
    · rw [List.getElem?_append_left hi] at h1
      by_cases hj : j < vs.length
      · rw [List.getElem?_append_left hj] at h2
        exact h.sep i j u x hij h1 h2 b hb
      · rw [List.getElem?_append_right (by omega)] at h2
        cases hkk : j - vs.length with
        | zero => rw [hkk] at h2; cases h2; exact hne i u h1 b hb
        | succ n => rw [hkk] at h2; simp at h2
    · rw [List.getElem?_append_right (by omega)] at h1
      cases hkk : i - vs.length with
      | zero =>
        rw [hkk] at h1
        cases h1
        by_cases hj : j < vs.length
        · rw [List.getElem?_append_left hj] at h2
          intro he
          exact hne j x h2 b he hb
        · rw [List.getElem?_append_right (by omega)] at h2
          cases hkj : j - vs.length with
          | zero => omega
          | succ n => rw [hkj] at h2; simp at h2
      | succ n => rw [hkk] at h1; simp at h1
/-- A byte of one text is stored. -/
theorem OwnT.put (h : OwnT w B A cap vs LL) {k g n c : Nat} {l : List B8} (hv : vs[k]? = some (.slice (some ⟨g, 0, none⟩) n c)) (hl : LL[k]? = some l) (j : Nat) (x : B8) :
    OwnT (w.setCell ⟨g, j, none⟩ (bv x)) B A cap vs (LL.set k (l.set j x)) := by
  obtain ⟨h1, h2⟩ := h.row k _ l hv hl
  obtain ⟨A', c', he, _⟩ := own_form h1
  injection he with he1 he2 he3
  subst he2
  have hst := own_store h1 j x
  have hgs := (h1.stored j (bv x)).2
  have hkl : k < LL.length := (List.getElem?_eq_some_iff.1 hl).1
  refine ⟨?_, by simp [h.len], ?_, h.sep⟩
  · rw [List.length_set]
    exact own_grown (v := .slice (some ⟨g, 0, none⟩) l.length c) h.own hgs (own_ne h1 h.own (by decide))
  · intro i v m h3 h4
    rw [List.getElem?_set] at h4
    by_cases hki : k = i
    · subst hki
      simp [hkl] at h4
      subst h4
      rw [hv] at h3
      cases h3
      exact ⟨by rw [List.length_set]; exact hst, by rw [List.length_set]; exact h2⟩
    · rw [if_neg hki] at h4
      obtain ⟨h5, h6⟩ := h.row i v m h3 h4
      refine ⟨own_grown (v := .slice (some ⟨g, 0, none⟩) l.length c) h5 hgs (fun b hb => ?_), h6⟩
      exact fun he => h.sep k i _ _ hki hv h3 b he hb

/-- A call answers texts of its own. -/
def RetT (w : World) (LL : List (List B8)) (e : Ending) (w' : World) : Prop :=
  ∃ A cap vs, e = .returned (.slice A LL.length cap) ∧ OwnT w' w.heap.size A cap vs LL ∧ Below w.heap.size w w'

set_option maxHeartbeats 800000 in
set_option maxRecDepth 100000 in
theorem texts_calls {w : World} {A : Option Addr} {n c : Nat} {vs : List Value} {LL : List (List B8)} (hA : At w A vs) (hT : Texts w vs LL) (hn : n = LL.length) (hmax : LL.length ≤ 5864062014634) :
    Calls Tryd.prog 33 #[.slice A n c] w (RetT w LL) := by
  have HN := Lib.hid hn
  clear hn
  go_enter Tryd.func33, Tryd.ntmps33
  go_wp2_with fail
  go_loopw [3, 8] (fun s3 s wr => ∃ (i : Nat) (A' : Option Addr) (cap : Nat) (xs : List Value), i ≤ n ∧ s = .int .i64 ((i : Nat) : Int) ∧ s3 = .slice A' i cap ∧ OwnT wr w.heap.size A' cap xs (LL.take i) ∧ Below w.heap.size w wr) (fun _ s _ => n - (intOf s).toNat)
  case atStart => exact ⟨0, none, 0, [], by omega, rfl, rfl, OwnT.nil _ _, Below.refl _ _⟩
  case round =>
    obtain ⟨i, A', cap, xs, hi, rfl, rfl, hO, hb⟩ := hrel
    rename World => w1
    by_cases hin : i < n
    · have hii : (i : Int) < (n : Int) := by omega
      have hiL : i < LL.length := by rw [← HN.out]; exact hin
      have hiv : i < vs.length := by rw [hT.1]; exact hiL
      obtain ⟨b, off, rfl, hc⟩ := hA i _ (List.getElem?_eq_getElem hiv)
      have hRow := hT.2 i _ _ (List.getElem?_eq_getElem hiv) (List.getElem?_eq_getElem hiL)
      have hcw := (hb.cell (p := ⟨b, off + i, none⟩) (block_lt hc)).trans hc
      have htk : LL.take (i + 1) = LL.take i ++ [LL[i]] := List.take_succ_eq_append_getElem hiL
      have hln : (LL.take i).length = i := by simp; omega
      have HTK := Lib.hid htk
      have HLN := Lib.hid hln
      have hzw := hb.size
      generalize LL[i] = l at *
      obtain ⟨X, cx, hvf, hX, hXn, hXnil, hXm⟩ := hRow
      rw [hvf] at hcw
      have HCL := Lib.hid (clone_calls (w := w1) (c := cx) (hX.below hb) rfl hXnil (by omega))
      have HO := Lib.hid hO
      clear hO htk hln hc hX hvf
      have hll : Hid (l.length ≤ 140737488351232) := Lib.hid hXm
      generalize hlE : l.length = ln at *
      have HLE := Lib.hid hlE
      clear hlE
      go_wp2_with fail
      refine HCL.out.mono ?_
      rintro e w2 ⟨A2, c2, rfl, ho2, hb2⟩
      have hb3 := hb2.trans ((below1' w2 (.cells #[.slice A2 ln c2] 22)).mono hb2.size)
      have hO3 := HO.out.below hb3
      have ho3 := own_below ho2 (below1' w2 (.cells #[.slice A2 ln c2] 22))
      have hhead := hO3.own
      rw [HLN.out] at hhead
      have hz3 := hb3.size
      go_wp2_with (at_builtin; refine app_head rfl (.tmp 12) (.tmp 15) rfl w.heap.size rfl hhead rfl (news := [.slice A2 ln c2]) rfl (at_lit1 _ _ _) (by intro u hu; rw [List.mem_singleton] at hu; subst hu; rfl) (by simp) (by omega) (by omega) ?_; intro A4 c4 w4 ho4 hb4 hg4 hc4)
      have hO4 : OwnT w4 w.heap.size A4 c4 (xs ++ [.slice A2 ln c2]) (LL.take (i + 1)) := by
        rw [HTK.out]
        refine hO3.snoc (by rw [HLE.out]; exact own_lower ho3 hzw) (by rw [HLE.out]; exact hll.out) ?_ (by rw [HLN.out]; exact ho4) (by rw [HLN.out]; exact hg4)
        intro k u hu b hb' he
        have h1 := (own_lower ho3 (Nat.le_refl _)).lt b he
        obtain ⟨x, hx⟩ : ∃ x, (LL.take i)[k]? = some x := ⟨_, List.getElem?_eq_getElem (by rw [← HO.out.len]; exact (List.getElem?_eq_some_iff.1 hu).1)⟩
        have h2 := (HO.out.row k u x hu hx).1.lt b hb'
        omega
      exact ⟨⟨i + 1, A4, c4, _, by omega, by go_num, rfl, hO4, (hb.trans (hb3.mono hzw)).trans hb4⟩, by simp [intOf]; omega⟩
    · obtain rfl : i = n := by omega
      rw [HN.out, List.take_length] at hO
      go_wp2_with fail
      go_ret
      exact ⟨A', cap, xs, by rw [← HN.out]; rfl, hO, hb⟩

end Go.Proofs.YtibidlgikecelaaDoor

namespace Go.Proofs.YtibidlgikecelaaDoor
open Go.RowKit
set_option linter.unusedVariables false
set_option linter.unusedSimpArgs false

/-- The texts' bytes, by place. -/
def mxOf (LL : List (List B8)) : Mx := fun i j => (LL.getD i []).getD j 0#8
/-- How long the first text is. -/
def widL (LL : List (List B8)) : Nat := (LL.getD 0 []).length
theorem rowL_of {l : List B8} {c : Nat} (h : l.length = c) : rowL c (fun j => l.getD j 0#8) = l := by
  subst h
  apply List.ext_getElem?
  intro i
  by_cases hi : i < l.length
  · rw [rowL_get hi, List.getD_eq_getElem?_getD, List.getElem?_eq_getElem hi]; rfl
  · rw [List.getElem?_eq_none (by simp; omega), List.getElem?_eq_none (by omega)]
theorem mxOf_row {LL : List (List B8)} {i : Nat} {l : List B8} (h : LL[i]? = some l) : mxOf LL i = fun j => l.getD j 0#8 := by
  funext j
  simp [mxOf, List.getD_eq_getElem?_getD, h]
theorem rowsL_of {LL : List (List B8)} {r c : Nat} (hr : LL.length = r) (h : ∀ l, l ∈ LL → l.length = c) : rowsL r c (mxOf LL) = LL := by
  subst hr
  apply List.ext_getElem?
  intro i
  by_cases hi : i < LL.length
  · rw [rowsL_get hi, List.getElem?_eq_getElem hi, mxOf_row (List.getElem?_eq_getElem hi), rowL_of (h _ (List.getElem_mem hi))]
  · rw [List.getElem?_eq_none (by simp; omega), List.getElem?_eq_none (by omega)]
theorem isB_shape {LL : List (List B8)} (h : isB LL = true) : 0 < LL.length ∧ LL.length ≤ 255 ∧ 0 < widL LL ∧ widL LL ≤ 255 ∧ rowsL LL.length (widL LL) (mxOf LL) = LL := by
  cases LL with
  | nil => cases h
  | cons l L =>
    simp only [isB, Bool.and_eq_true, decide_eq_true_eq, List.all_eq_true] at h
    obtain ⟨⟨⟨h1, h2⟩, h3⟩, h4⟩ := h
    refine ⟨by simp, h1, h2, h3, rowsL_of rfl fun x hx => h4 x hx⟩
theorem widL_rows {r c : Nat} {M : Mx} (hr : 0 < r) : widL (rowsL r c M) = c := by
  unfold widL
  rw [List.getD_eq_getElem?_getD, rowsL_get hr]
  simp
theorem mxOf_rows {r c : Nat} {M : Mx} : EqM r c (mxOf (rowsL r c M)) M := by
  intro i j hi hj
  rw [mxOf_row (rowsL_get hi)]
  show (rowL c (M i)).getD j 0#8 = _
  rw [List.getD_eq_getElem?_getD, rowL_get hj]
  rfl
theorem eqM_eq_inv {n : Nat} {A B : Mx} (h : EqM n n A B) : invM n A = none ↔ invM n B = none := by
  constructor
  · intro hA
    cases hB : invM n B with
    | none => rfl
    | some R =>
      have hI := (inv_some hB).l
      obtain ⟨S, hS, _⟩ := inv_of_left (A := A) (B := R) (fun i j hi hj => by rw [mulM_congr (EqM.refl n n R) h i j hi hj]; exact hI i j hi hj)
      rw [hA] at hS; cases hS
  · intro hB
    cases hA : invM n A with
    | none => rfl
    | some R =>
      have hI := (inv_some hA).l
      obtain ⟨S, hS, _⟩ := inv_of_left (A := B) (B := R) (fun i j hi hj => by rw [mulM_congr (EqM.refl n n R) h.symm i j hi hj]; exact hI i j hi hj)
      rw [hB] at hS; cases hS

/-- The product's rows, and the error. -/
def mulL (LA LB : List (List B8)) : List (List B8) := if isB LA = true ∧ isB LB = true ∧ widL LA = LB.length then rowsL LA.length (widL LB) (mulM LB.length (mxOf LA) (mxOf LB)) else []
def mulE (LA LB : List (List B8)) : Int := if isB LA = true ∧ isB LB = true ∧ widL LA = LB.length then 0 else 1
theorem mulL_len (LA LB : List (List B8)) : (mulL LA LB).length ≤ 255 := by
  unfold mulL
  split
  · rename_i h; rw [length_rowsL]; exact (isB_shape h.1).2.1
  · simp
/-- The inverse's rows, and the error. -/
def invL (L : List (List B8)) : List (List B8) := if isB L = true ∧ L.length = widL L then (match invM L.length (mxOf L) with | some R => rowsL L.length L.length R | none => []) else []
def invE (L : List (List B8)) : Int := if isB L = true ∧ L.length = widL L then (match invM L.length (mxOf L) with | some _ => 0 | none => 20) else 1
theorem invL_len (L : List (List B8)) : (invL L).length ≤ 255 := by
  unfold invL
  split
  · rename_i h
    split
    · rw [length_rowsL]; exact (isB_shape h.1).2.1
    · simp
  · simp
/-- Some rows, and the error. -/
def rwsL (L : List (List B8)) (l : List Int) : List (List B8) := if isB L = true ∧ 0 < l.length ∧ l.length ≤ 255 ∧ wrongIx L.length l = -1 then rowsL l.length (widL L) (pickM l (mxOf L)) else []
def rwsE (L : List (List B8)) (l : List Int) : Int := if isB L = true ∧ 0 < l.length ∧ l.length ≤ 255 ∧ wrongIx L.length l = -1 then 0 else 1
theorem rwsL_len (L : List (List B8)) (l : List Int) : (rwsL L l).length ≤ 255 := by
  unfold rwsL
  split
  · rename_i h; rw [length_rowsL]; exact h.2.2.1
  · simp
theorem wrong_le {n : Nat} {l : List Int} (h : wrongIx n l = -1) : ∀ y, y ∈ l → 0 ≤ y ∧ y < (n : Int) := by
  intro y hy
  unfold wrongIx at h
  split at h
  · rename_i k hk
    omega
  · rename_i hk
    rw [List.findIdx?_eq_none_iff] at hk
    have := hk y hy
    simp at this
    omega

end Go.Proofs.YtibidlgikecelaaDoor

namespace Go.Proofs.YtibidlgikecelaaDoor
open Go.RowKit
set_option linter.unusedVariables false
set_option linter.unusedSimpArgs false

/-- Heads of rows with room. -/
def headsC (blk cp : Nat → Nat) (r c : Nat) : List Value := (List.range r).map fun i => .slice (some ⟨blk i, 0, none⟩) c (cp i)
@[simp] theorem length_headsC (blk cp : Nat → Nat) (r c : Nat) : (headsC blk cp r c).length = r := by simp [headsC]
theorem headsC_get {blk cp : Nat → Nat} {r c i : Nat} (h : i < r) : (headsC blk cp r c)[i]? = some (.slice (some ⟨blk i, 0, none⟩) c (cp i)) := by simp [headsC, h]
theorem headsC_V (blk : Nat → Nat) (r c : Nat) : headsV blk r c = headsC blk (fun _ => c) r c := rfl
/-- Two numbers change places. -/
def swapF {α : Type} (f : Nat → α) (c p : Nat) : Nat → α := fun k => if k = p then f c else if k = c then f p else f k
def swapN (c p k : Nat) : Nat := if k = p then c else if k = c then p else k
theorem swapF_at {α : Type} (f : Nat → α) (c p k : Nat) : swapF f c p k = f (swapN c p k) := by
  unfold swapF swapN
  split
  · rfl
  · split <;> rfl
theorem swapN_lt {c p k r : Nat} (hc : c < r) (hp : p < r) (hk : k < r) : swapN c p k < r := by unfold swapN; split; exact hc; split; exact hp; exact hk
theorem swapN_inj {c p i j : Nat} (h : swapN c p i = swapN c p j) : i = j := by
  unfold swapN at h
  repeat' (split at h)
  all_goals omega
theorem headsC_swap (blk cp : Nat → Nat) {r c i p : Nat} (hi : i < r) (hp : p < r) :
    ((headsC blk cp r c).set i (.slice (some ⟨blk p, 0, none⟩) c (cp p))).set p (.slice (some ⟨blk i, 0, none⟩) c (cp i)) = headsC (swapF blk i p) (swapF cp i p) r c := by
  apply List.ext_getElem?
  intro k
  rw [List.getElem?_set, List.getElem?_set]
  simp only [List.length_set, length_headsC]
  by_cases hk : k < r
  · rw [headsC_get hk, headsC_get hk]
    unfold swapF
    by_cases hkp : p = k
    · subst hkp; simp [hk]
    · have hkp' : ¬ k = p := fun h => hkp h.symm
      by_cases hkc : i = k
      · subst hkc; simp [hkp, hkp', hk]
      · have hkc' : ¬ k = i := fun h => hkc h.symm
        simp [hkp, hkc, hkp', hkc']
  · have e1 : (headsC blk cp r c)[k]? = none := List.getElem?_eq_none (by simpa using hk)
    have e2 : (headsC (swapF blk i p) (swapF cp i p) r c)[k]? = none := List.getElem?_eq_none (by simpa using hk)
    have hkp : ¬ p = k := by omega
    have hkc : ¬ i = k := by omega
    rw [e2]
    simp [hkp, hkc, e1]

structure OwnW (w : World) (B g cap : Nat) (blk cp : Nat → Nat) (r c : Nat) (M : Mx) : Prop where
  own : w.ownsRow B 22 1 (.slice (some ⟨g, 0, none⟩) r cap) r (headsC blk cp r c)
  row : ∀ i, i < r → w.ownsRow B 5 1 (.slice (some ⟨blk i, 0, none⟩) c (cp i)) c (bys (rowL c (M i)))
  inj : ∀ i j, i < r → j < r → blk i = blk j → i = j
section
variable {w w' : World} {B g r c cap : Nat} {blk cp : Nat → Nat} {M : Mx}
theorem OwnG.toW {A : Option Addr} (h : OwnG w B A cap blk r c M) (hr : 0 < r) (hc : c ≤ maxLen) : ∃ g, A = some ⟨g, 0, none⟩ ∧ OwnW w B g cap blk (fun _ => c) r c M := by
  obtain ⟨g, rfl⟩ := own_block h.own hr
  exact ⟨g, rfl, h.own, fun i hi => (h.row i hi).own (by simp) (h.geB i hi) hc, h.inj⟩
theorem OwnW.ltG (h : OwnW w B g cap blk cp r c M) : B ≤ g ∧ g < w.heap.size := own_ge h.own
theorem OwnW.ltB (h : OwnW w B g cap blk cp r c M) {i : Nat} (hi : i < r) : B ≤ blk i ∧ blk i < w.heap.size := own_ge (h.row i hi)
theorem OwnW.ne (h : OwnW w B g cap blk cp r c M) {i : Nat} (hi : i < r) : blk i ≠ g := by
  intro he
  have := own_ne (h.row i hi) h.own (by decide) g rfl
  exact this (by rw [← he]; rfl)
theorem OwnW.cell (h : OwnW w B g cap blk cp r c M) {i : Nat} (hi : i < r) : w.cell? ⟨g, i, none⟩ = some (.slice (some ⟨blk i, 0, none⟩) c (cp i)) := by
  rw [h.own.cellAt i (by omega), headsC_get hi]
theorem OwnW.frozen (h : OwnW w B g cap blk cp r c M) (i : Nat) : w.frozen? ⟨g, i, none⟩ = false := h.own.frozenAt i
theorem OwnW.byte (h : OwnW w B g cap blk cp r c M) {i j : Nat} (hi : i < r) (hj : j < c) : w.cell? ⟨blk i, j, none⟩ = some (.int .u8 ((M i j).toNat : Int)) := by
  have := own_cell (h.row i hi) (j := j) (by simpa using hj)
  rwa [show (rowL c (M i))[j]'(by simpa using hj) = M i j from by simp [rowL]] at this
theorem OwnW.rowAt (h : OwnW w B g cap blk cp r c M) {i : Nat} (hi : i < r) : At w (some ⟨blk i, 0, none⟩) (bys (rowL c (M i))) := own_at (h.row i hi)
theorem OwnW.bfrozen (h : OwnW w B g cap blk cp r c M) {i : Nat} (hi : i < r) (j : Nat) : w.frozen? ⟨blk i, j, none⟩ = false := (h.row i hi).frozenAt j
theorem OwnW.room (h : OwnW w B g cap blk cp r c M) {i : Nat} (hi : i < r) : c ≤ cp i := own_le (h.row i hi)
theorem OwnW.at (h : OwnW w B g cap blk cp r c M) : At w (some ⟨g, 0, none⟩) (headsC blk cp r c) := own_at h.own
theorem OwnW.texts (h : OwnW w B g cap blk cp r c M) (hm : c ≤ 1000) : Texts w (headsC blk cp r c) (rowsL r c M) := by
  refine ⟨by simp, ?_⟩
  intro i v l h1 h2
  have hi : i < r := by
    rcases Nat.lt_or_ge i r with h | h
    · exact h
    · rw [List.getElem?_eq_none (by simpa using h)] at h1; cases h1
  rw [headsC_get hi] at h1
  rw [rowsL_get hi] at h2
  cases h1; cases h2
  exact own_row (h.row i hi) (by simp; omega)
theorem OwnW.mat (h : OwnW w B g cap blk cp r c M) (hm : c ≤ 1000) : MatAt w (some ⟨g, 0, none⟩) r c M := ⟨_, h.at, h.texts hm⟩
theorem OwnW.below (h : OwnW w B g cap blk cp r c M) (hb : Below w.heap.size w w') : OwnW w' B g cap blk cp r c M :=
  ⟨own_below h.own hb, fun i hi => own_below (h.row i hi) hb, h.inj⟩
theorem OwnW.lower (h : OwnW w B g cap blk cp r c M) {B' : Nat} (hB : B' ≤ B) : OwnW w B' g cap blk cp r c M :=
  ⟨own_lower h.own hB, fun i hi => own_lower (h.row i hi) hB, h.inj⟩
theorem OwnW.congr (h : OwnW w B g cap blk cp r c M) {N : Mx} (hN : EqM r c M N) : OwnW w B g cap blk cp r c N :=
  ⟨h.own, fun i hi => by have := h.row i hi; rwa [rowL_congr (fun j hj => hN i j hi hj)] at this, h.inj⟩
theorem own_other {B e sz n : Nat} {v : Value} {xs : List Value} {t : Nat} (h : w.ownsRow B e sz v n xs) (hg : w.grownBy w' (some t)) (hne : v.ownBlock ≠ some t) : w'.ownsRow B e sz v n xs := h.kept hg (.inr hne)
/-- Another block changes. -/
theorem OwnW.keep (h : OwnW w B g cap blk cp r c M) {t : Nat} (hg : w.grownBy w' (some t)) (h1 : g ≠ t) (h2 : ∀ i, i < r → blk i ≠ t) : OwnW w' B g cap blk cp r c M :=
  ⟨own_other h.own hg (by simpa [Value.ownBlock] using h1), fun i hi => own_other (h.row i hi) hg (by simpa [Value.ownBlock] using h2 i hi), h.inj⟩
/-- A row is changed. -/
theorem OwnW.setRow (h : OwnW w B g cap blk cp r c M) {i : Nat} (hi : i < r) {f : Nat → B8} (hg : w.grownBy w' (some (blk i))) (hr : w'.ownsRow B 5 1 (.slice (some ⟨blk i, 0, none⟩) c (cp i)) c (bys (rowL c f))) :
    OwnW w' B g cap blk cp r c (putR M i f) := by
  refine ⟨own_other h.own hg (by simpa [Value.ownBlock] using Ne.symm (h.ne hi)), fun k hk => ?_, h.inj⟩
  by_cases hki : k = i
  · subst hki
    show w'.ownsRow B _ 1 _ c (bys (rowL c (if k = k then f else M k)))
    rw [if_pos rfl]; exact hr
  · show w'.ownsRow B _ 1 _ c (bys (rowL c (if k = i then f else M k)))
    rw [if_neg hki]
    exact own_other (h.row k hk) hg (by simpa [Value.ownBlock] using fun he => hki (h.inj k i hk hi he))
theorem OwnW.put (h : OwnW w B g cap blk cp r c M) {i : Nat} (hi : i < r) (j : Nat) (x : B8) :
    OwnW (w.setCell ⟨blk i, j, none⟩ (bv x)) B g cap blk cp r c (putR M i (fun k => if k = j then x else M i k)) :=
  h.setRow hi (grown_set _ _ _ _) (by rw [← rowL_set]; exact own_store (h.row i hi) j x)
/-- Two rows change places. -/
theorem OwnW.swap (h : OwnW w B g cap blk cp r c M) {i p : Nat} (hi : i < r) (hp : p < r) :
    OwnW ((w.setCell ⟨g, i, none⟩ (.slice (some ⟨blk p, 0, none⟩) c (cp p))).setCell ⟨g, p, none⟩ (.slice (some ⟨blk i, 0, none⟩) c (cp i))) B g cap (swapF blk i p) (swapF cp i p) r c (swapM i p M) := by
  have h1 := h.own.stored i (.slice (some ⟨blk p, 0, none⟩) c (cp p))
  have h2 := h1.1.stored p (.slice (some ⟨blk i, 0, none⟩) c (cp i))
  refine ⟨?_, fun k hk => ?_, fun a b ha hb he => ?_⟩
  · rw [← headsC_swap blk cp hi hp]; exact h2.1
  · have hst : ∀ k, k < r → ((w.setCell ⟨g, i, none⟩ (.slice (some ⟨blk p, 0, none⟩) c (cp p))).setCell ⟨g, p, none⟩ (.slice (some ⟨blk i, 0, none⟩) c (cp i))).ownsRow B 5 1 (.slice (some ⟨blk k, 0, none⟩) c (cp k)) c (bys (rowL c (M k))) := fun k hk =>
      own_other (own_other (h.row k hk) (grown_set w g i _) (by simpa [Value.ownBlock] using h.ne hk)) (grown_set _ g p _) (by simpa [Value.ownBlock] using h.ne hk)
    have e1 : swapM i p M k = M (swapN i p k) := by
      rw [← swapM_is]
      exact swapF_at M i p k
    rw [e1, swapF_at, swapF_at]
    exact hst _ (swapN_lt hi hp hk)
  · rw [swapF_at, swapF_at] at he
    exact swapN_inj (h.inj _ _ (swapN_lt hi hp ha) (swapN_lt hi hp hb) he)
/-- One more row. -/
theorem OwnT.toW {A : Option Addr} {vs : List Value} (h : OwnT w B A cap vs (rowsL r c M)) (hr : 0 < r) (hc : 0 < c) : ∃ g blk cp, A = some ⟨g, 0, none⟩ ∧ vs = headsC blk cp r c ∧ OwnW w B g cap blk cp r c M := by
  have hlen : vs.length = r := by rw [h.len]; simp
  have ho := h.own
  rw [length_rowsL] at ho
  obtain ⟨g, rfl⟩ := own_block ho hr
  have hex : ∀ i, i < r → ∃ b k, vs[i]? = some (.slice (some ⟨b, 0, none⟩) c k) := by
    intro i hi
    have hv : vs[i]? = some vs[i] := List.getElem?_eq_getElem (by omega)
    obtain ⟨h1, _⟩ := h.row i _ _ hv (rowsL_get hi)
    rw [length_rowL] at h1
    obtain ⟨X, k, he, _⟩ := own_form h1
    rw [he] at h1
    obtain ⟨b, rfl⟩ := own_block h1 hc
    exact ⟨b, k, by rw [hv, he]⟩
  have hex2 : ∀ i, ∃ b k, i < r → vs[i]? = some (.slice (some ⟨b, 0, none⟩) c k) := by
    intro i
    by_cases hi : i < r
    · obtain ⟨b, k, h⟩ := hex i hi
      exact ⟨b, k, fun _ => h⟩
    · exact ⟨0, 0, fun h => absurd h hi⟩
  have hvs : vs = headsC (fun i => Classical.choose (hex2 i)) (fun i => Classical.choose (Classical.choose_spec (hex2 i))) r c := by
    apply List.ext_getElem?
    intro i
    by_cases hi : i < r
    · rw [headsC_get hi]
      exact Classical.choose_spec (Classical.choose_spec (hex2 i)) hi
    · rw [List.getElem?_eq_none (by omega), List.getElem?_eq_none (by simpa using hi)]
  generalize (fun i => Classical.choose (hex2 i)) = blk at *
  generalize (fun i => Classical.choose (Classical.choose_spec (hex2 i))) = cp at *
  subst hvs
  refine ⟨g, blk, cp, rfl, rfl, ho, fun i hi => ?_, fun i j hi hj he => ?_⟩
  · have := (h.row i _ _ (headsC_get hi) (rowsL_get hi)).1
    rwa [length_rowL] at this
  · rcases Nat.decEq i j with hij | hij
    · exact absurd (by rw [he]; rfl) (h.sep i j _ _ hij (headsC_get hi) (headsC_get hj) (blk i) rfl)
    · exact hij
end

/-- Two matrices side by side. -/
def sideW (n : Nat) (L O : Mx) : Mx := fun i j => if j < n then L i j else O i (j - n)
theorem sideW_one {n : Nat} (A : Mx) : EqM n (2 * n) (sideW n A oneM) (sideM n A) := by
  intro i j hi hj
  unfold sideW sideM oneM
  by_cases h : j < n
  · simp [h]
  · by_cases h2 : j = n + i
    · subst h2; simp [h]
    · have : ¬ i = j - n := by omega
      simp [h, h2, this]
theorem sideW_swap (n c p : Nat) (L O : Mx) : sideW n (swapM c p L) (swapM c p O) = swapM c p (sideW n L O) := by
  funext i j
  unfold sideW swapM
  by_cases h : i = c
  · rw [if_pos h, if_pos h, if_pos h]
  · rw [if_neg h, if_neg h, if_neg h]
    by_cases h2 : i = p
    · rw [if_pos h2, if_pos h2, if_pos h2]
    · rw [if_neg h2, if_neg h2, if_neg h2]
/-- The rows but one, cleared, of one of two. -/
def clearP (c : Nat) (L O : Mx) : Mx := fun r j => if r = c then gm (O c j) (gi (L c c)) else O r j ^^^ gm (gm (O c j) (gi (L c c))) (L r c)
theorem sideW_clear {n c : Nat} (hc : c < n) (L O : Mx) : sideW n (clearP c L L) (clearP c L O) = clearM c (sideW n L O) := by
  funext i j
  unfold sideW clearM clearP
  by_cases h : j < n <;> simp [h, hc]
theorem pivot_side {n c : Nat} (hc : c < n) (L O : Mx) : pivotM n c (sideW n L O) = pivotM n c L := by
  unfold pivotM sideW
  simp [hc]
theorem elim_congr {n : Nat} : ∀ (k c : Nat) {W V : Mx}, c + k = n → EqM n (2 * n) W V → (elimM n k c W = none ↔ elimM n k c V = none) ∧ ∀ W' V', elimM n k c W = some W' → elimM n k c V = some V' → EqM n (2 * n) W' V'
  | 0, c, W, V, hk, h => by
    refine ⟨by simp [elimM], fun W' V' h1 h2 => ?_⟩
    simp only [elimM, Option.some.injEq] at h1 h2
    subst h1 h2
    exact h
  | k + 1, c, W, V, hk, h => by
    have hp : pivotM n c W = pivotM n c V := by
      unfold pivotM
      suffices hh : ∀ l : List Nat, (∀ x, x ∈ l → x < n) → (l.find? fun p => decide (c ≤ p) && decide (W p c ≠ 0#8)) = (l.find? fun p => decide (c ≤ p) && decide (V p c ≠ 0#8)) from hh _ fun x hx => List.mem_range.1 hx
      intro l hl
      induction l with
      | nil => rfl
      | cons x l ih =>
        rw [List.find?_cons, List.find?_cons, h x c (hl x (List.mem_cons_self ..)) (by omega), ih fun y hy => hl y (List.mem_cons_of_mem _ hy)]
    cases hpv : pivotM n c V with
    | none =>
      rw [hpv] at hp
      refine ⟨by simp [elimM, stepM, hp, hpv], fun W' V' h1 => ?_⟩
      simp [elimM, stepM, hp] at h1
    | some p =>
      rw [hpv] at hp
      obtain ⟨h1, h2, h3⟩ := pivot_some hpv
      have hs : EqM n (2 * n) (swapM c p W) (swapM c p V) := by
        intro i j hi hj
        unfold swapM
        split
        · exact h p j h2 hj
        · split
          · exact h c j (by omega) hj
          · exact h i j hi hj
      have hcl : EqM n (2 * n) (clearM c (swapM c p W)) (clearM c (swapM c p V)) := by
        intro i j hi hj
        unfold clearM
        rw [hs c j (by omega) hj, hs c c (by omega) (by omega), hs i j hi hj, hs i c hi (by omega)]
      have e1 : elimM n (k + 1) c W = elimM n k (c + 1) (clearM c (swapM c p W)) := elim_some hp
      have e2 : elimM n (k + 1) c V = elimM n k (c + 1) (clearM c (swapM c p V)) := elim_some hpv
      rw [e1, e2]
      exact elim_congr k (c + 1) (by omega) hcl
theorem inv_pair_none {n : Nat} {A : Mx} (h : elimM n n 0 (sideW n A oneM) = none) : invM n A = none :=
  inv_of_none (((elim_congr n 0 (by omega) (sideW_one A)).1).1 h)
theorem inv_pair_some {n : Nat} {A L O : Mx} (h : elimM n n 0 (sideW n A oneM) = some (sideW n L O)) : ∃ R, invM n A = some R ∧ EqM n n O R := by
  cases h2 : elimM n n 0 (sideM n A) with
  | none =>
    have := ((elim_congr n 0 (by omega) (sideW_one A)).1).2 h2
    rw [h] at this; cases this
  | some W =>
    refine ⟨_, inv_of_some h2, fun i j hi hj => ?_⟩
    have := (elim_congr n 0 (by omega) (sideW_one A)).2 _ _ h h2 i (n + j) hi (by omega)
    rw [← this]
    unfold sideW
    rw [if_neg (by omega)]
    congr 1
    omega

end Go.Proofs.YtibidlgikecelaaDoor
