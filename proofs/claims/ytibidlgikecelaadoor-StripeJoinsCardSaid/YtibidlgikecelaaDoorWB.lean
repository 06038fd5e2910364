/- Contracts: matrix.is. Contracts: matrix.is, on. Words: a block that is a row of bytes, a grid of such rows. No program in sight but the types. Contracts: matrix.grid, matrix.gather. -/
import Derived.Test.YtibidlgikecelaaDoorWA
import Derived.Test.YtibidlgikecelaaDoorB
import Derived.Test.YtibidlgikecelaaDoorGA
import Derived.Laws.CopyOwn
import Derived.Deep.RegionHeld
namespace Go.Proofs.YtibidlgikecelaaDoor
open Go.RowKit
set_option linter.unusedVariables false
set_option linter.unusedSimpArgs false

set_option maxHeartbeats 400000 in
theorem is1_calls {w : World} {g b off n c lx cx l0 c0 : Nat} {X A0 : Option Addr} (hg : w.cell? ⟨g, 0, none⟩ = some (.slice (some ⟨b, off, none⟩) n c)) (h0 : w.cell? ⟨b, off, none⟩ = some (.slice A0 l0 c0)) (hn : 0 < n) :
    Calls Tryd.prog 88 #[.slice X lx cx, .pointer (some ⟨g, 0, none⟩)] w fun e w' => e = .returned (.bool ((lx : Int) != (l0 : Int))) ∧ w = w' := by
  have hni : (0 : Int) < (n : Int) := by omega
  go_enter Tryd.func88, Tryd.ntmps88
  go_wp2_with fail
  go_ret
  exact ⟨rfl, rfl⟩

theorem some_of_at {w : World} {A : Option Addr} {vs : List Value} (h : At w A vs) (hne : 0 < vs.length) : ∃ b off, A = some ⟨b, off, none⟩ := by
  obtain ⟨b, off, he, _⟩ := h 0 vs[0] (List.getElem?_eq_getElem hne)
  exact ⟨b, off, he⟩
/-- The first row of another length, and -1 where there is none. -/
def oddRow (L : List (List B8)) (l0 : Nat) : Int := match L.findIdx? fun r => decide (r.length ≠ l0) with | some k => (k : Int) | none => -1

theorem oddRow_at {L : List (List B8)} {l0 j : Nat} {l : List B8} (hl : L[j]? = some l) (hne : l.length ≠ l0) (h : ∀ (i : Nat) (r : List B8), i < j → L[i]? = some r → r.length = l0) : oddRow L l0 = (j : Int) := by
  unfold oddRow
  have : L.findIdx? (fun r => decide (r.length ≠ l0)) = some j := by
    rw [List.findIdx?_eq_some_iff_getElem]
    obtain ⟨hj, he⟩ := List.getElem?_eq_some_iff.1 hl
    refine ⟨hj, by rw [he]; simpa using hne, fun i hi => ?_⟩
    have := h i _ hi (List.getElem?_eq_getElem (by omega))
    simpa using this
  rw [this]
theorem oddRow_no {L : List (List B8)} {l0 : Nat} (h : ∀ (i : Nat) (r : List B8), i < L.length → L[i]? = some r → r.length = l0) : oddRow L l0 = -1 := by
  unfold oddRow
  have : L.findIdx? (fun r => decide (r.length ≠ l0)) = none := by
    rw [List.findIdx?_eq_none_iff]
    intro r hr
    obtain ⟨i, hi, rfl⟩ := List.getElem_of_mem hr
    have := h i _ hi (List.getElem?_eq_getElem hi)
    simpa using this
  rw [this]

set_option maxHeartbeats 400000 in
set_option maxRecDepth 100000 in
theorem isidx_calls {w : World} {g b off n c l0 c0 : Nat} {A0 : Option Addr} {vs : List Value} {L : List (List B8)} (hA : At w (some ⟨b, off, none⟩) vs) (hL : Texts w vs L) (hn : n = L.length) (hmax : L.length ≤ 255)
    (hg : w.cell? ⟨g, 0, none⟩ = some (.slice (some ⟨b, off, none⟩) n c)) (h0 : w.cell? ⟨b, off, none⟩ = some (.slice A0 l0 c0)) :
    Calls Tryd.prog 63 #[.slice (some ⟨b, off, none⟩) n c, .func (.func 88) #[] #[.pointer (some ⟨g, 0, none⟩)]] w fun e w' => e = .returned (.int .i64 (oddRow L l0)) ∧ w = w' := by
  subst hn
  have hvl := hL.1
  generalize hr : oddRow L l0 = r
  have HR := Lib.hid hr
  clear hr
  go_enter Tryd.func63, Tryd.ntmps63
  go_wp2_with fail
  go_loop [8] (fun s8 => ∃ j : Nat, j ≤ L.length ∧ s8 = .int .i64 ((j : Nat) : Int) ∧ ∀ (i : Nat) (r : List B8), i < j → L[i]? = some r → r.length = l0) (fun s8 => L.length - (intOf s8).toNat)
  case atStart => exact ⟨0, by omega, rfl, by intro i r hi; omega⟩
  case round =>
    obtain ⟨j, hj, rfl, hall⟩ := hrel
    by_cases hjl : j < L.length
    · obtain ⟨l, hl, X, cx, hv, hXA, hX2, hX3, hX4⟩ := hL.get (by omega : j < vs.length)
      obtain ⟨b', o', he, hc⟩ := hA j _ (List.getElem?_eq_getElem (by omega : j < vs.length))
      cases he
      rw [hv] at hc
      have hji : (j : Int) < (L.length : Int) := by omega
      have hj0 : (0 : Int) ≤ (j : Int) := by omega
      have hc1 := fun X' cx' => is1_calls (X := X') (cx := cx') (lx := l.length) hg h0 (by omega)
      have HALL := Lib.hid hall
      have HL := Lib.hid hl
      by_cases hll : l.length = l0
      · rw [show ((l.length : Int) != (l0 : Int)) = false by simp; omega] at hc1
        have HC := Lib.hid hc1
        have HLL := Lib.hid hll
        clear hc1 hall hl hll hv
        go_wp2_with (go_at_call 88; refine (HC.out _ _).mono ?_; rintro e w' ⟨rfl, rfl⟩)
        refine ⟨⟨j + 1, by omega, by go_num, fun i r hi hr => ?_⟩, by simp [intOf]; omega⟩
        by_cases hij : i < j
        · exact HALL.out i r hij hr
        · obtain rfl : i = j := by omega
          rw [HL.out] at hr
          cases hr
          exact HLL.out
      · rw [show ((l.length : Int) != (l0 : Int)) = true by simp; omega] at hc1
        have HC := Lib.hid hc1
        have HLL := Lib.hid hll
        clear hc1 hall hl hll hv
        go_wp2_with (go_at_call 88; refine (HC.out _ _).mono ?_; rintro e w' ⟨rfl, rfl⟩)
        go_ret
        refine ⟨ret_int ?_, rfl⟩
        rw [← HR.out]
        exact (oddRow_at HL.out HLL.out HALL.out).symm
    · obtain rfl : j = L.length := by omega
      have HALL := Lib.hid hall
      clear hall
      go_wp2_with fail
      go_ret
      refine ⟨ret_int ?_, rfl⟩
      rw [← HR.out]
      exact (oddRow_no HALL.out).symm

end Go.Proofs.YtibidlgikecelaaDoor

namespace Go.Proofs.YtibidlgikecelaaDoor
open Go.RowKit
set_option linter.unusedVariables false
set_option linter.unusedSimpArgs false

/-- Rows are a matrix. -/
def isB : List (List B8) → Bool
  | [] => false
  | l :: L => decide ((l :: L).length ≤ 255) && decide (0 < l.length) && decide (l.length ≤ 255) && (l :: L).all fun r => decide (r.length = l.length)
theorem oddRow_neg {L : List (List B8)} {l0 : Nat} : (L.all fun r => decide (r.length = l0)) = decide (oddRow L l0 < 0) := by
  unfold oddRow
  cases h : L.findIdx? fun r => decide (r.length ≠ l0) with
  | none =>
    rw [List.findIdx?_eq_none_iff] at h
    have : (L.all fun r => decide (r.length = l0)) = true := by
      rw [List.all_eq_true]
      intro r hr
      simpa using h r hr
    rw [this]; rfl
  | some k =>
    rw [List.findIdx?_eq_some_iff_getElem] at h
    obtain ⟨hk, h1, _⟩ := h
    have : (L.all fun r => decide (r.length = l0)) = false := by
      rw [List.all_eq_false]
      exact ⟨_, List.getElem_mem hk, by simpa using h1⟩
    rw [this]
    simp

set_option maxHeartbeats 400000 in
set_option maxRecDepth 100000 in
theorem ishas_calls {w : World} {g b off n c l0 c0 : Nat} {A0 : Option Addr} {vs : List Value} {L : List (List B8)} (hA : At w (some ⟨b, off, none⟩) vs) (hL : Texts w vs L) (hn : n = L.length) (hmax : L.length ≤ 255)
    (hg : w.cell? ⟨g, 0, none⟩ = some (.slice (some ⟨b, off, none⟩) n c)) (h0 : w.cell? ⟨b, off, none⟩ = some (.slice A0 l0 c0)) :
    Calls Tryd.prog 69 #[.slice (some ⟨b, off, none⟩) n c, .func (.func 88) #[] #[.pointer (some ⟨g, 0, none⟩)]] w fun e w' => e = .returned (.bool (decide (0 ≤ oddRow L l0))) ∧ w = w' := by
  subst hn
  have HC := Lib.hid (isidx_calls hA hL rfl hmax hg h0)
  generalize oddRow L l0 = r at *
  go_enter Tryd.func69, Tryd.ntmps69
  go_wp2_with fail
  refine HC.out.mono ?_
  rintro e w' ⟨rfl, rfl⟩
  go_wp2_with fail
  go_ret
  exact ⟨rfl, rfl⟩

/-- A call answers a value, and lays no more than what is new. -/
def RetV (w : World) (v : Value) (e : Ending) (w' : World) : Prop := e = .returned v ∧ Below w.heap.size w w'
theorem below1' (w : World) (o1 : Obj) : Below w.heap.size w (w.alloc o1) := (Below.refl _ _).alloc (Nat.le_refl _) _

theorem isB_of {L : List (List B8)} {l : List B8} (hl : L[0]? = some l) : isB L = (decide (L.length ≤ 255) && decide (0 < l.length) && decide (l.length ≤ 255) && decide (oddRow L l.length < 0)) := by
  cases L with
  | nil => cases hl
  | cons x L =>
    obtain rfl : x = l := Option.some.inj hl
    rw [← oddRow_neg]
    rfl
theorem box_cell (w : World) (v : Value) (t : TypeId) : (w.alloc (.cells #[v] t)).cell? ⟨w.heap.size, 0, none⟩ = some v :=
  cell_of_row _ _ 0 _ _ (0, 0) (heap_alloc_new w _)

set_option maxHeartbeats 800000 in
set_option maxRecDepth 100000 in
theorem is_calls {w : World} {A : Option Addr} {n c : Nat} {vs : List Value} {L : List (List B8)} (hA : At w A vs) (hL : Texts w vs L) (hn : n = L.length) :
    Calls Tryd.prog 59 #[.slice A n c] w (RetV w (.bool (isB L))) := by
  subst hn
  have hbw := below1' w (.cells #[.slice A L.length c] 24)
  by_cases h1 : 0 < L.length
  · have hb1 : decide (0 < (L.length : Int)) = true := decide_eq_true (by omega)
    by_cases h2 : L.length ≤ 255
    · have hb2 : decide ((L.length : Int) ≤ 255) = true := decide_eq_true (by omega)
      obtain ⟨l, hl, X, cx, hv, hXA, hX2, hX3, hX4⟩ := hL.get (by rw [hL.1]; exact h1 : 0 < vs.length)
      have hB := isB_of hl
      generalize isB L = r at hB ⊢
      rw [decide_eq_true h2, Bool.true_and] at hB
      obtain ⟨b, off, rfl, hc⟩ := hA 0 _ (List.getElem?_eq_getElem (by rw [hL.1]; exact h1 : 0 < vs.length))
      rw [hv, Nat.add_zero] at hc
      have hcw := (hbw.cell (p := ⟨b, off, none⟩) (block_lt hc)).trans hc
      have hHas := ishas_calls (g := w.heap.size) (hA.below hbw) (hL.below hbw) rfl h2 (c := c) (box_cell w _ _) hcw
      have hi0 : (0 : Int) < (L.length : Int) := by omega
      by_cases h3 : 0 < l.length
      · have hb3 : decide (0 < (l.length : Int)) = true := decide_eq_true (by omega)
        rw [decide_eq_true h3, Bool.true_and] at hB
        by_cases h4 : l.length ≤ 255
        · have hb4 : decide ((l.length : Int) ≤ 255) = true := decide_eq_true (by omega)
          rw [decide_eq_true h4, Bool.true_and] at hB
          have HR : r = !decide (0 ≤ oddRow L l.length) := by
            rw [hB]
            by_cases h : 0 ≤ oddRow L l.length
            · rw [decide_eq_true h, decide_eq_false (by omega)]; rfl
            · rw [decide_eq_false h, decide_eq_true (by omega)]; rfl
          generalize decide (0 ≤ oddRow L l.length) = y at *
          have HR := Lib.hid HR
          have HH := Lib.hid hHas
          clear hB hHas hv hl
          go_enter Tryd.func59, Tryd.ntmps59
          go_wp2_with fail
          refine HH.out.mono ?_
          rintro e w1 ⟨rfl, rfl⟩
          go_wp2_with fail
          go_ret
          exact ⟨ret_bool HR.out.symm, hbw⟩
        · have hb4 : decide ((l.length : Int) ≤ 255) = false := decide_eq_false (by omega)
          rw [decide_eq_false h4, Bool.false_and] at hB
          subst hB
          clear hHas hv hl
          go_enter Tryd.func59, Tryd.ntmps59
          go_wp2_with fail
          go_ret
          exact ⟨rfl, hbw⟩
      · have hb3 : decide (0 < (l.length : Int)) = false := decide_eq_false (by omega)
        rw [decide_eq_false h3, Bool.false_and, Bool.false_and] at hB
        subst hB
        clear hHas hv hl
        go_enter Tryd.func59, Tryd.ntmps59
        go_wp2_with fail
        go_ret
        exact ⟨rfl, hbw⟩
    · have hb2 : decide ((L.length : Int) ≤ 255) = false := decide_eq_false (by omega)
      have hf : isB L = false := by
        cases L with
        | nil => rfl
        | cons l L => simp only [isB, decide_eq_false h2, Bool.false_and]
      generalize isB L = r at *
      subst hf
      go_enter Tryd.func59, Tryd.ntmps59
      go_wp2_with fail
      go_ret
      exact ⟨rfl, hbw⟩
  · have hL0 : L = [] := by
      cases L with
      | nil => rfl
      | cons x L => exact absurd (Nat.succ_pos L.length) h1
    have hb1 : decide (0 < (L.length : Int)) = false := by rw [hL0]; rfl
    have hf : isB L = false := by rw [hL0]; rfl
    generalize isB L = r at *
    subst hf
    clear hL0
    go_enter Tryd.func59, Tryd.ntmps59
    go_wp2_with fail
    go_ret
    exact ⟨rfl, hbw⟩

end Go.Proofs.YtibidlgikecelaaDoor

namespace Go.Proofs.YtibidlgikecelaaDoor
open Go.RowKit
set_option linter.unusedVariables false
set_option linter.unusedSimpArgs false

/-- A row of c bytes by a function. -/
def rowL (c : Nat) (f : Nat → B8) : List B8 := (List.range c).map f
@[simp] theorem length_rowL (c : Nat) (f : Nat → B8) : (rowL c f).length = c := by simp [rowL]
theorem rowL_get {c j : Nat} {f : Nat → B8} (h : j < c) : (rowL c f)[j]? = some (f j) := by simp [rowL, h]
theorem rowL_congr {c : Nat} {f g : Nat → B8} (h : ∀ j, j < c → f j = g j) : rowL c f = rowL c g := by
  refine List.map_congr_left ?_
  intro j hj
  exact h j (by simpa using hj)
theorem rowL_set (c : Nat) (f : Nat → B8) (j : Nat) (x : B8) : (rowL c f).set j x = rowL c (fun i => if i = j then x else f i) := by
  apply List.ext_getElem?
  intro i
  rw [List.getElem?_set]
  by_cases hij : j = i
  · subst hij
    by_cases hj : j < c
    · simp [rowL, hj]
    · simp [rowL, hj]
  · have hij' : ¬ i = j := fun h => hij h.symm
    by_cases hi : i < c
    · simp [rowL, hij, hij', hi]
    · simp [rowL, hij, hij', hi]
theorem rowL_const (c : Nat) (x : B8) : rowL c (fun _ => x) = List.replicate c x := by
  apply List.ext_getElem?
  intro i
  by_cases hi : i < c <;> simp [rowL, hi]

/-- Block k is a row of bytes. -/
def RowB (w : World) (k : Nat) (l : List B8) : Prop := w.heap[k]? = some (.cells (bys l).toArray 5 (0, 0))
theorem RowB.lt {w : World} {k : Nat} {l : List B8} (h : RowB w k l) : k < w.heap.size := (Array.getElem?_eq_some_iff.1 h).1
theorem RowB.cell {w : World} {k j : Nat} {l : List B8} {x : B8} (h : RowB w k l) (hj : l[j]? = some x) : w.cell? ⟨k, j, none⟩ = some (.int .u8 (x.toNat : Int)) := by
  rw [cell_of_row w k j _ _ (0, 0) h, List.getElem?_toArray, bys_getElem?, hj]; rfl
theorem RowB.at {w : World} {k : Nat} {l : List B8} (h : RowB w k l) : At w (some ⟨k, 0, none⟩) (bys l) := by
  intro i x hx
  refine ⟨k, 0, rfl, ?_⟩
  rw [cell_of_row w k (0 + i) _ _ (0, 0) h, Nat.zero_add, List.getElem?_toArray]; exact hx
theorem RowB.frozen {w : World} {k : Nat} {l : List B8} (h : RowB w k l) (j : Nat) : w.frozen? ⟨k, j, none⟩ = false := frozen_of_row w k j _ _ h
theorem RowB.set {w : World} {k : Nat} {l : List B8} (h : RowB w k l) (j : Nat) (x : B8) : RowB (w.setCell ⟨k, j, none⟩ (bv x)) k (l.set j x) := by
  have := heap_setCell_same w k j _ _ (bv x) h
  unfold RowB
  rw [this, ← bys_set]
  simp
theorem grown_set (w : World) (k j : Nat) (x : Value) : w.grownBy (w.setCell ⟨k, j, none⟩ x) (some k) :=
  ⟨rfl, rfl, rfl, by simp, fun i _ hk => heap_setCell_other w ⟨k, j, none⟩ i x (fun e => hk (by simp [e]))⟩
theorem RowB.grown {w w' : World} {k : Nat} {l : List B8} {row : Option Nat} (h : RowB w k l) (hg : w.grownBy w' row) (hne : some k ≠ row) : RowB w' k l := by
  unfold RowB
  rw [hg.block k h.lt hne]; exact h
theorem RowB.below {w w' : World} {k B : Nat} {l : List B8} (h : RowB w k l) (hb : Below B w w') (hk : k < B) : RowB w' k l := by
  unfold RowB
  rw [hb.block k hk]; exact h
theorem RowB.of_own {w : World} {B k n : Nat} {l : List B8} (h : w.ownsRow B 5 1 (.slice (some ⟨k, 0, none⟩) n n) n (bys l)) : RowB w k l := by
  rcases h.2 with ⟨h', _⟩ | ⟨g', cap', cur, h', hb, hg, hnc, hcm, hcs, htake⟩
  · simp at h'
  · simp only [Value.slice.injEq, Option.some.injEq, Addr.mk.injEq, and_true, true_and] at h'
    obtain ⟨rfl, rfl⟩ := h'
    rw [List.take_of_length_le (by rw [Array.length_toList, hcs]; exact Nat.le_refl _)] at htake
    unfold RowB
    rw [hg, ← htake]
theorem RowB.own {w : World} {B k n : Nat} {l : List B8} (h : RowB w k l) (hn : n = l.length) (hB : B ≤ k) (hm : n ≤ maxLen) : w.ownsRow B 5 1 (.slice (some ⟨k, 0, none⟩) n n) n (bys l) := by
  subst hn
  exact ⟨by simp, .inr ⟨k, l.length, _, rfl, hB, h, Nat.le_refl _, hm, by simp, by rw [Nat.mul_one]; exact List.take_of_length_le (by simp)⟩⟩
theorem RowB.row {w : World} {k : Nat} {l : List B8} (h : RowB w k l) {n : Nat} (hn : n = l.length) (hm : n ≤ 140737488351232) : Row w (.slice (some ⟨k, 0, none⟩) n n) l := by
  subst hn
  exact ⟨_, _, rfl, h.at, Nat.le_refl _, (fun h => by cases h), hm⟩

theorem grown_of_below {w w' : World} (h : Below w.heap.size w w') (row : Option Nat) : w.grownBy w' row := ⟨h.os, h.tape, h.output, h.size, fun k hk _ => h.block k hk⟩
theorem below_of_grown {w w' : World} {row : Option Nat} {B : Nat} (h : w.grownBy w' row) (hB : B ≤ w.heap.size) (hr : ∀ k, row = some k → B ≤ k) : Below B w w' := (Below.refl B w).grown h hB hr
theorem grown_refl (w : World) (row : Option Nat) : w.grownBy w row := ⟨rfl, rfl, rfl, Nat.le_refl _, fun _ _ _ => rfl⟩
theorem grown_trans {a b c : World} {row : Option Nat} (h : a.grownBy b row) (k : b.grownBy c row) : a.grownBy c row :=
  ⟨k.os.trans h.os, k.tape.trans h.tape, k.output.trans h.output, Nat.le_trans h.size k.size, fun i hi hne => (k.block i (Nat.lt_of_lt_of_le hi h.size) hne).trans (h.block i hi hne)⟩
theorem At.grown' {w w' : World} {A : Option Addr} {vs : List Value} {row : Option Nat} (h : At w A vs) (hg : w.grownBy w' row) (hne : ∀ b off, A = some ⟨b, off, none⟩ → some b ≠ row) : At w' A vs := by
  intro i x hx
  obtain ⟨b, off, rfl, hc⟩ := h i x hx
  exact ⟨b, off, rfl, (World.cell?_of_block (hg.block b (block_lt hc) (hne b off rfl))).trans hc⟩

/-- The rows' heads. -/
def headsV (blk : Nat → Nat) (r c : Nat) : List Value := (List.range r).map fun i => .slice (some ⟨blk i, 0, none⟩) c c
@[simp] theorem length_headsV (blk : Nat → Nat) (r c : Nat) : (headsV blk r c).length = r := by simp [headsV]
theorem headsV_get {blk : Nat → Nat} {r c i : Nat} (h : i < r) : (headsV blk r c)[i]? = some (.slice (some ⟨blk i, 0, none⟩) c c) := by simp [headsV, h]
/-- Rows by a function. -/
def rowsL (r c : Nat) (M : Mx) : List (List B8) := (List.range r).map fun i => rowL c (M i)
@[simp] theorem length_rowsL (r c : Nat) (M : Mx) : (rowsL r c M).length = r := by simp [rowsL]
theorem rowsL_get {r c i : Nat} {M : Mx} (h : i < r) : (rowsL r c M)[i]? = some (rowL c (M i)) := by simp [rowsL, h]
theorem rowsL_congr {r c : Nat} {M N : Mx} (h : EqM r c M N) : rowsL r c M = rowsL r c N := by
  refine List.map_congr_left ?_
  intro i hi
  exact rowL_congr fun j hj => h i j (by simpa using hi) hj
theorem rowsL_inj {r c : Nat} {M N : Mx} (h : rowsL r c M = rowsL r c N) : EqM r c M N := by
  intro i j hi hj
  have h1 : (rowsL r c M)[i]? = (rowsL r c N)[i]? := by rw [h]
  rw [rowsL_get hi, rowsL_get hi] at h1
  have h2 : (rowL c (M i))[j]? = (rowL c (N i))[j]? := by rw [Option.some.inj h1]
  rw [rowL_get hj, rowL_get hj] at h2
  exact Option.some.inj h2
theorem rowsL_isB {r c : Nat} (M : Mx) (hr : 0 < r) (hr2 : r ≤ 255) (hc : 0 < c) (hc2 : c ≤ 255) : isB (rowsL r c M) = true := by
  have h0 : (rowsL r c M)[0]? = some (rowL c (M 0)) := rowsL_get hr
  rw [isB_of h0]
  have : oddRow (rowsL r c M) (rowL c (M 0)).length = -1 := by
    apply oddRow_no
    intro i l hi hl
    rw [rowsL_get (by simpa using hi)] at hl
    cases hl
    simp
  rw [this]
  simp [hr2, hc, hc2]

/-- Block g is a grid of rows, each in a block of its own. -/
structure Grid (w : World) (B g : Nat) (blk : Nat → Nat) (r c : Nat) (M : Mx) : Prop where
  top : w.heap[g]? = some (.cells (headsV blk r c).toArray 22 (0, 0))
  row : ∀ i, i < r → RowB w (blk i) (rowL c (M i))
  inj : ∀ i j, i < r → j < r → blk i = blk j → i = j
  geG : B ≤ g
  geB : ∀ i, i < r → B ≤ blk i

variable {w w' : World} {B g r c : Nat} {blk : Nat → Nat} {M : Mx}
theorem Grid.ltG (h : Grid w B g blk r c M) : g < w.heap.size := (Array.getElem?_eq_some_iff.1 h.top).1
theorem Grid.ne (h : Grid w B g blk r c M) {i : Nat} (hi : i < r) : blk i ≠ g := by
  intro he
  have h1 := h.row i hi
  unfold RowB at h1
  rw [he, h.top] at h1
  injection h1 with h1
  injection h1 with _ h1 _
  exact absurd h1 (by decide)
theorem Grid.cell (h : Grid w B g blk r c M) {i : Nat} (hi : i < r) : w.cell? ⟨g, i, none⟩ = some (.slice (some ⟨blk i, 0, none⟩) c c) := by
  rw [cell_of_row w g i _ _ (0, 0) h.top, List.getElem?_toArray, headsV_get hi]
theorem Grid.frozen (h : Grid w B g blk r c M) (i : Nat) : w.frozen? ⟨g, i, none⟩ = false := frozen_of_row w g i _ _ h.top
theorem Grid.at (h : Grid w B g blk r c M) : At w (some ⟨g, 0, none⟩) (headsV blk r c) := by
  intro i x hx
  refine ⟨g, 0, rfl, ?_⟩
  rw [cell_of_row w g (0 + i) _ _ (0, 0) h.top, Nat.zero_add, List.getElem?_toArray]; exact hx
theorem Grid.texts (h : Grid w B g blk r c M) (hm : c ≤ 140737488351232) : Texts w (headsV blk r c) (rowsL r c M) := by
  refine ⟨by simp, ?_⟩
  intro i v l h1 h2
  have hi : i < r := by
    rcases Nat.lt_or_ge i r with h | h
    · exact h
    · rw [List.getElem?_eq_none (by simpa using h)] at h1; cases h1
  rw [headsV_get hi] at h1
  rw [rowsL_get hi] at h2
  cases h1; cases h2
  exact (h.row i hi).row (by simp) hm
theorem Grid.grown (h : Grid w B g blk r c M) (hg : w.grownBy w' none) : Grid w' B g blk r c M := by
  refine ⟨?_, fun i hi => (h.row i hi).grown hg (by simp), h.inj, h.geG, h.geB⟩
  rw [hg.block g h.ltG (by simp)]; exact h.top
theorem Grid.below (h : Grid w B g blk r c M) (hb : Below w.heap.size w w') : Grid w' B g blk r c M := h.grown (grown_of_below hb none)
/-- A row is changed. -/
theorem Grid.setRow (h : Grid w B g blk r c M) {i : Nat} (hi : i < r) {f : Nat → B8} (hg : w.grownBy w' (some (blk i))) (hr : RowB w' (blk i) (rowL c f)) :
    Grid w' B g blk r c (fun k => if k = i then f else M k) := by
  refine ⟨?_, fun k hk => ?_, h.inj, h.geG, h.geB⟩
  · rw [hg.block g h.ltG (by simpa using Ne.symm (h.ne hi))]; exact h.top
  · by_cases hki : k = i
    · subst hki; rw [if_pos rfl]; exact hr
    · rw [if_neg hki]
      exact (h.row k hk).grown hg (by simpa using fun he => hki (h.inj k i hk hi he))
theorem Grid.congr (h : Grid w B g blk r c M) {N : Mx} (hN : EqM r c M N) : Grid w B g blk r c N :=
  ⟨h.top, fun i hi => by have := h.row i hi; rwa [rowL_congr (fun j hj => hN i j hi hj)] at this, h.inj, h.geG, h.geB⟩
/-- Block 0 stays where only newer blocks change. -/
theorem FoldAt.grown (h : FoldAt w) {row : Option Nat} (hg : w.grownBy w' row) (hne : row ≠ some 0) : FoldAt w' := by
  refine At.grown' h hg ?_
  intro b off he
  cases he
  exact fun h => hne h.symm
theorem FoldAt.below (h : FoldAt w) (hb : Below w.heap.size w w') : FoldAt w' := At.below h hb
theorem FoldAt.lt (h : FoldAt w) : 0 < w.heap.size := by
  obtain ⟨b, off, he, hc⟩ := h 0 (bv 0#8) rfl
  cases he
  exact block_lt hc

theorem bys_toArray_toList (l : List B8) : (bys l).toArray.toList = bys l := rfl
/-- copy(row, text): the text lies over the row from place off on. -/
theorem wp_copy_row {w : World} {o : Oper} {a : Act} {K : Act → World → Prop} {Q : Exit → Act → World → Prop} (d s : Operand)
    (ho : o.op = .call { callee := .builtin .copy, args := #[d, s], argTypes := #[22, 22] })
    {g off dLen dCap sLen sCap : Nat} {A : Option Addr} (hd : a.eval d = .slice (some ⟨g, off, none⟩) dLen dCap) (hs : a.eval s = .slice A sLen sCap)
    {l src : List B8} (hg : RowB w g l) (hA : At w A (bys src)) (hn : src.length = Nat.min sLen dLen) (hpos : 0 < src.length) (hfit : off + src.length ≤ l.length)
    (h : ∀ w', RowB w' g (l.take off ++ (src ++ l.drop (off + src.length))) → w.grownBy w' (some g) → K (a.put o.dst (goInt src.length)) w') :
    o.wp Tryd.prog a w K Q := by
  obtain ⟨b, o2, rfl⟩ := some_of_at hA (by simpa using hpos)
  have hinfo : (Tryd.prog.info? 5).map (·.size) = some 1 := by kernel_rfl
  have hrun := run_copy_row (P := Tryd.prog) w 22 22 o.type 5 g off dLen dCap ⟨b, o2, none⟩ sLen sCap _ _ (bys src) Tryd.underlying22 hinfo hg (by simpa using hn) hA.add (by simpa using hfit) (bys_one _)
  have hset := setRow_heap w g _ ((bys l).toArray.toList.take off ++ bys src ++ (bys l).toArray.toList.drop (off + (bys src).length)).toArray _ _ hg
  unfold Oper.wp
  simp only [execOp, ho, resolve, invoke, builtin, hd, hs]
  simp [hd, hs, hrun, Result.andThen]
  refine h _ ?_ ⟨rfl, rfl, rfl, by simp [World.setRow], fun k _ hk => setRow_other w g k _ (fun e => hk (by rw [e]))⟩
  unfold RowB
  rw [bys_append, bys_append, ← bys_take, ← bys_drop]
  simpa using hset
theorem copy_row {w : World} {ops : Array Oper} {rest : List Oper} {o : Oper} {a : Act} {Q : Exit → Act → World → Prop} (hgd : o.guard = none) (d s : Operand)
    (ho : o.op = .call { callee := .builtin .copy, args := #[d, s], argTypes := #[22, 22] })
    {g off dLen dCap sLen sCap : Nat} {A : Option Addr} (hd : a.eval d = .slice (some ⟨g, off, none⟩) dLen dCap) (hs : a.eval s = .slice A sLen sCap)
    {l src : List B8} (hg : RowB w g l) (hA : At w A (bys src)) (hn : src.length = Nat.min sLen dLen) (hpos : 0 < src.length) (hfit : off + src.length ≤ l.length)
    (h : ∀ w', RowB w' g (l.take off ++ (src ++ l.drop (off + src.length))) → w.grownBy w' (some g) → wpList Tryd.prog ops Q rest (a.put o.dst (goInt src.length)) w') :
    wpList Tryd.prog ops Q (o :: rest) a w :=
  wpList_plain hgd fun _ hK' => wp_copy_row d s ho hd hs hg hA hn hpos hfit fun w' h1 h2 => hK' _ _ (h w' h1 h2)
theorem step_copy_row {w : World} {ops : Array Oper} {E : Prop} {o : Oper} {a : Act} {K : Act → World → Prop} {Q : Exit → Act → World → Prop} (hgd : o.guard = none) (d s : Operand)
    (ho : o.op = .call { callee := .builtin .copy, args := #[d, s], argTypes := #[22, 22] })
    {g off dLen dCap sLen sCap : Nat} {A : Option Addr} (hd : a.eval d = .slice (some ⟨g, off, none⟩) dLen dCap) (hs : a.eval s = .slice A sLen sCap)
    {l src : List B8} (hg : RowB w g l) (hA : At w A (bys src)) (hn : src.length = Nat.min sLen dLen) (hpos : 0 < src.length) (hfit : off + src.length ≤ l.length)
    (h : ∀ w', RowB w' g (l.take off ++ (src ++ l.drop (off + src.length))) → w.grownBy w' (some g) → K (a.put o.dst (goInt src.length)) w') :
    if Region.wanted o (yielded ops a.tmps) = true then o.wp Tryd.prog a w K Q else E := by
  rw [if_pos (by simp [Region.wanted, hgd])]
  exact wp_copy_row d s ho hd hs hg hA hn hpos hfit h
/-- A row that lies over another one of its length. -/
theorem over_full {l src : List B8} (h : src.length = l.length) : l.take 0 ++ (src ++ l.drop (0 + src.length)) = src := by
  simp [h]

/-- make([]byte, n): a row of noughts. -/
theorem make_row {w : World} {ops : Array Oper} {rest : List Oper} {o : Oper} {a : Act} {Q : Exit → Act → World → Prop}
    (hg : o.guard = none) (l c : Operand) (hop : o.op = Op.makeSlice 22 l c) {L C : Int} (n : Nat) (hl : a.eval l = .int .i64 L) (hc : a.eval c = .int .i64 C) (hL : L = (n : Int)) (hC : C = (n : Int))
    (b2 : n ≤ 140737488351232)
    (hK : ∀ w', RowB w' w.heap.size (rowL n fun _ => 0#8) → Below w.heap.size w w' → w'.heap.size = w.heap.size + 1 → wpList Tryd.prog ops Q rest (a.put o.dst (.slice (some ⟨w.heap.size, 0, none⟩) n n)) w') :
    wpList Tryd.prog ops Q (o :: rest) a w := by
  subst hL hC
  obtain ⟨i, hi, hz0, hz1, hz2⟩ := info_parts u8info
  refine wpList_plain hg fun K hK' => ?_
  have hr := run_make (P := Tryd.prog) w 22 5 i (.int .u8 0) Tryd.underlying22 hi hz0 .i64 .i64 n n (by omega) (Int.le_refl _) (by rw [hz2]; omega) (by omega)
  simp only [Int.toNat_natCast] at hr
  unfold Oper.wp
  simp [execOp, hop, hl, hc, hr, Result.andThen]
  refine hK' _ _ (hK _ ?_ (below1' _ _) (by simp))
  unfold RowB
  rw [heap_alloc_new]
  congr 2
  rw [hz1, Nat.mul_one, rowL_const]
  apply Array.ext'
  rw [show (Value.int .u8 0).cells = #[Value.int .u8 0] from rfl, toList_madeCells_one]
  simp [bys, bv]
theorem headinfo : (Tryd.prog.info? 22).map (fun i => (i.zero, i.size, i.bytes)) = some (some (.slice none 0 0), 1, 24) := by kernel_rfl
/-- make([][]byte, n). -/
theorem make_top {w : World} {ops : Array Oper} {rest : List Oper} {o : Oper} {a : Act} {Q : Exit → Act → World → Prop}
    (hg : o.guard = none) (l c : Operand) (hop : o.op = Op.makeSlice 24 l c) {L C : Int} (n : Nat) (hl : a.eval l = .int .i64 L) (hc : a.eval c = .int .i64 C) (hL : L = (n : Int)) (hC : C = (n : Int))
    (b2 : n ≤ 1000000)
    (hK : ∀ w', w'.heap[w.heap.size]? = some (.cells (List.replicate n (Value.slice none 0 0)).toArray 22 (0, 0)) → Below w.heap.size w w' → w'.heap.size = w.heap.size + 1 → wpList Tryd.prog ops Q rest (a.put o.dst (.slice (some ⟨w.heap.size, 0, none⟩) n n)) w') :
    wpList Tryd.prog ops Q (o :: rest) a w := by
  subst hL hC
  obtain ⟨i, hi, hz0, hz1, hz2⟩ := info_parts headinfo
  refine wpList_plain hg fun K hK' => ?_
  have hr := run_make (P := Tryd.prog) w 24 22 i (.slice none 0 0) Tryd.underlying24 hi hz0 .i64 .i64 n n (by omega) (Int.le_refl _) (by rw [hz2]; omega) (by omega)
  simp only [Int.toNat_natCast] at hr
  unfold Oper.wp
  simp [execOp, hop, hl, hc, hr, Result.andThen]
  refine hK' _ _ (hK _ ?_ (below1' _ _) (by simp))
  rw [heap_alloc_new]
  congr 2
  rw [hz1, Nat.mul_one]
  apply Array.ext'
  rw [show (Value.slice none 0 0).cells = #[Value.slice none 0 0] from rfl, toList_madeCells_one]

end Go.Proofs.YtibidlgikecelaaDoor

namespace Go.Proofs.YtibidlgikecelaaDoor
open Go.RowKit
set_option linter.unusedVariables false
set_option linter.unusedSimpArgs false

/-- A row, half of it with another row's multiple added. -/
def addAt (i : Nat) (f h : Nat → B8) (x : B8) : Nat → B8 := fun j => if j < i then f j ^^^ gm (h j) x else f j
theorem addAt_zero (f h : Nat → B8) (x : B8) : addAt 0 f h x = f := by funext j; simp [addAt]
theorem addAt_step (i : Nat) (f h : Nat → B8) (x : B8) : (fun j => if j = i then f i ^^^ gm (h i) x else addAt i f h x j) = addAt (i + 1) f h x := by
  funext j
  unfold addAt
  by_cases hj : j = i
  · subst hj; simp
  · have h3 : (j < i + 1) = (j < i) := by simp; omega
    simp [hj, h3]
theorem addAt_at (i : Nat) (f h : Nat → B8) (x : B8) : addAt i f h x i = f i := by simp [addAt]
theorem addAt_end (c : Nat) (f h : Nat → B8) (x : B8) : rowL c (addAt c f h x) = rowL c (addR f h x) := rowL_congr fun j hj => by simp [addAt, addR, hj]
theorem addR_zero (f h : Nat → B8) : addR f h 0#8 = f := by funext j; simp [addR, gm_zero]
theorem bv_xor (a b : B8) : bv (a ^^^ b) = .int .u8 ((a.toNat ^^^ b.toNat : Nat) : Int) := by simp [bv]
theorem byte_eq0 {x : B8} (h : x ≠ 0#8) : ((x.toNat : Int) == 0) = false := by
  have : x.toNat ≠ 0 := fun h' => h (BitVec.eq_of_toNat_eq (by simpa using h'))
  simp; omega

/-- What gather leaves. -/
def RetG (w : World) (tb c : Nat) (f : Nat → B8) (e : Ending) (w' : World) : Prop := e = .returned (.tuple #[]) ∧ w.grownBy w' (some tb) ∧ RowB w' tb (rowL c f)

set_option maxHeartbeats 400000 in
set_option maxRecDepth 100000 in
theorem gather_calls {w : World} {tb c cf : Nat} {f h : Nat → B8} {F : Option Addr} {x : B8} (hT : RowB w tb (rowL c f)) (hFA : At w F (bys (rowL c h))) (hF : FoldAt w) (h0 : tb ≠ 0)
    (hne : ∀ b off, F = some ⟨b, off, none⟩ → b ≠ tb) (hc : c ≤ 1000000) :
    Calls Tryd.prog 61 #[.slice (some ⟨tb, 0, none⟩) c c, .slice F c cf, .int .u8 (x.toNat : Int)] w (RetG w tb c (addR f h x)) := by
  by_cases hx : x = 0#8
  · subst hx
    rw [addR_zero]
    go_enter Tryd.func61, Tryd.ntmps61
    go_wp2_with fail
    go_end0
    exact ⟨rfl, grown_refl _ _, hT⟩
  · have hx0 := byte_eq0 hx
    have HE := Lib.hid (addAt_end c f h x)
    go_enter Tryd.func61, Tryd.ntmps61
    go_wp2_with fail
    go_loopw [12] (fun s wr => ∃ i : Nat, i ≤ c ∧ s = .int .i64 ((i : Nat) : Int) ∧ w.grownBy wr (some tb) ∧ RowB wr tb (rowL c (addAt i f h x))) (fun s _ => c - (intOf s).toNat)
    case atStart => exact ⟨0, by omega, rfl, grown_refl _ _, by rw [addAt_zero]; exact hT⟩
    case round =>
      obtain ⟨i, hi, rfl, hg, hR⟩ := hrel
      by_cases hic : i < c
      · have hii : (i : Int) < (c : Int) := by omega
        have hcT := hR.cell (rowL_get (f := addAt i f h x) hic)
        rw [addAt_at] at hcT
        have hfz := hR.frozen i
        obtain ⟨b, off, rfl, hcF⟩ := (hFA.grown' hg (fun b off he hb => hne b off he (Option.some.inj hb))).byte (k := i) (by simpa using hic)
        rw [show (rowL c h)[i]'(by simpa using hic) = h i from by simp [rowL]] at hcF
        have hFw := hF.grown hg (by simpa using h0)
        have hbr := belowN (w := wr) (B := wr.heap.size) 1
        have hS := Lib.hid (addAt_step i f h x)
        have hRR := Lib.hid (rowL_set c (addAt i f h x) i (f i ^^^ gm (h i) x))
        rw [hS.out] at hRR
        generalize hf1 : addAt (i + 1) f h x = f1 at *
        have HF1 := Lib.hid hf1
        clear hf1
        generalize addAt i f h x = f2 at *
        generalize f i = y at *
        generalize h i = z at *
        go_wp2_with fail
        have hcTD : wr.drew.cell? ⟨tb, i, none⟩ = some (.int .u8 (y.toNat : Int)) := hcT
        have hcFD : wr.drew.cell? ⟨b, off + i, none⟩ = some (.int .u8 (z.toNat : Int)) := hcF
        have hFD : FoldAt wr.drew := hFw
        have hRD : RowB wr.drew tb (rowL c f2) := hR
        have hgD : w.grownBy wr.drew (some tb) := grown_trans hg (grown_of_below (belowN 1) _)
        refine wp_region_held_drew (S := fun _ => True) (by kernel_rfl) trivial (fun _ => ?_)
        generalize wr.drew = WD at *
        clear hcT hcF hR hg hfz hFw
        refine wpAnyH_take (i := 0) (v := ?_) rfl (by kernel_rfl) (by kernel_rfl) (by kernel_rfl) (fun _ _ _ h => h) (Or.inl ⟨by rfl, ?_⟩) (by assumption) ?_; rotate_left; (intro w hSw; (try dsimp only at hSw); go_simp; (first | done | (with_reducible rfl))); (try simp only [List.getElem_toArray, List.getElem_cons_succ, List.getElem_cons_zero, Act.put, List.setIfInBounds_toArray, List.set_cons_zero, List.set_cons_succ])
        refine wpAnyH_take (i := 1) (v := ?_) rfl (by kernel_rfl) (by kernel_rfl) (by kernel_rfl) (fun _ _ _ h => h) (Or.inl ⟨by rfl, ?_⟩) (by assumption) ?_; rotate_left; (intro w hSw; (try dsimp only at hSw); go_simp; (first | done | (with_reducible rfl))); (try simp only [List.getElem_toArray, List.getElem_cons_succ, List.getElem_cons_zero, Act.put, List.setIfInBounds_toArray, List.set_cons_zero, List.set_cons_succ])
        refine wpAnyH_take (i := 2) (v := ?_) rfl (by kernel_rfl) (by kernel_rfl) (by kernel_rfl) (fun _ _ _ h => h) (Or.inl ⟨by rfl, ?_⟩) (by assumption) ?_; rotate_left; (intro w hSw; (try dsimp only at hSw); go_simp; (first | done | (with_reducible rfl))); (try simp only [List.getElem_toArray, List.getElem_cons_succ, List.getElem_cons_zero, Act.put, List.setIfInBounds_toArray, List.set_cons_zero, List.set_cons_succ])
        refine wpAnyH_take (i := 3) (v := ?_) rfl (by kernel_rfl) (by kernel_rfl) (by kernel_rfl) (fun _ _ _ h => h) (Or.inl ⟨by rfl, ?_⟩) (by assumption) ?_; rotate_left; (intro w hSw; (try dsimp only at hSw); go_simp; (first | done | (with_reducible rfl))); (try simp only [List.getElem_toArray, List.getElem_cons_succ, List.getElem_cons_zero, Act.put, List.setIfInBounds_toArray, List.set_cons_zero, List.set_cons_succ])
        refine wpAnyH_take (i := 6) (v := ?_) rfl (by kernel_rfl) (by kernel_rfl) (by kernel_rfl) (fun _ _ _ h => h) (Or.inl ⟨by rfl, ?_⟩) (by assumption) ?_; rotate_left; (intro w hSw; (try dsimp only at hSw); go_simp; (first | done | (with_reducible rfl))); (try simp only [List.getElem_toArray, List.getElem_cons_succ, List.getElem_cons_zero, Act.put, List.setIfInBounds_toArray, List.set_cons_zero, List.set_cons_succ])
        refine wpAnyH_take (i := 7) (v := ?_) rfl (by kernel_rfl) (by kernel_rfl) (by kernel_rfl) (fun _ _ _ h => h) (Or.inl ⟨by rfl, ?_⟩) (by assumption) ?_; rotate_left; (intro w hSw; (try dsimp only at hSw); go_simp; (first | done | (with_reducible rfl))); (try simp only [List.getElem_toArray, List.getElem_cons_succ, List.getElem_cons_zero, Act.put, List.setIfInBounds_toArray, List.set_cons_zero, List.set_cons_succ])
        refine wpAnyH_take (i := 4) (v := ?_) rfl (by kernel_rfl) (by kernel_rfl) (by kernel_rfl) (fun _ _ _ h => h) (Or.inl ⟨by rfl, ?_⟩) (by assumption) ?_; rotate_left; (intro w hSw; (try dsimp only at hSw); go_simp; (first | done | (with_reducible rfl))); (try simp only [List.getElem_toArray, List.getElem_cons_succ, List.getElem_cons_zero, Act.put, List.setIfInBounds_toArray, List.set_cons_zero, List.set_cons_succ])
        refine wpAnyH_ready (rs := [5, 8]) (by kernel_rfl) (by simp) ?_
        refine AllReadyH.cons rfl (fun K hK => ?_) (AllReadyH.cons rfl (fun K hK => ?_) AllReadyH.nil)
        · go_simp
          go_wp2_with fail
          refine hK.out _ _ trivial (fun _ => ?_); clear hK K; (try simp only [List.getElem_toArray, List.getElem_cons_succ, List.getElem_cons_zero, Act.put, List.setIfInBounds_toArray, List.set_cons_zero, List.set_cons_succ])
          refine wpAnyH_ready (rs := [8]) (by kernel_rfl) (by simp) ?_; refine AllReadyH.cons rfl (fun K hK => ?_) AllReadyH.nil
          go_simp
          refine (mul_calls z x hFD).mono ?_
          rintro e w1 ⟨rfl, hb1⟩
          go_wp2_with fail
          refine hK.out _ _ trivial (fun _ => ?_); clear hK K; (try simp only [List.getElem_toArray, List.getElem_cons_succ, List.getElem_cons_zero, Act.put, List.setIfInBounds_toArray, List.set_cons_zero, List.set_cons_succ])
          refine wpAnyH_ready (rs := [9]) (by kernel_rfl) (by simp) ?_; refine AllReadyH.cons rfl (fun K hK => ?_) AllReadyH.nil
          go_simp
          refine (add_calls _ _).mono ?_
          rintro e w2 ⟨rfl, rfl⟩
          go_wp2_with fail
          refine hK.out _ _ trivial (fun _ => ?_); clear hK K; (try simp only [List.getElem_toArray, List.getElem_cons_succ, List.getElem_cons_zero, Act.put, List.setIfInBounds_toArray, List.set_cons_zero, List.set_cons_succ])
          refine wpAnyH_take (i := 10) (v := ?_) rfl (by kernel_rfl) (by kernel_rfl) (by kernel_rfl) (fun _ _ _ h => h) (Or.inl ⟨by rfl, ?_⟩) (by assumption) ?_; rotate_left; (intro w hSw; (try dsimp only at hSw); go_simp; (first | done | (with_reducible rfl))); (try simp only [List.getElem_toArray, List.getElem_cons_succ, List.getElem_cons_zero, Act.put, List.setIfInBounds_toArray, List.set_cons_zero, List.set_cons_succ])
          have hR1 := hRD.below hb1 hRD.lt
          have hcs := hR1.cell (rowL_get (f := f2) hic)
          have hfs := hR1.frozen i
          refine wpAnyH_ready (rs := [11]) (by kernel_rfl) (by simp) ?_; refine AllReadyH.cons rfl (fun K hK => ?_) AllReadyH.nil
          go_simp
          go_wp2_with fail
          refine hK.out _ _ trivial (fun _ => ?_); clear hK K; (try simp only [List.getElem_toArray, List.getElem_cons_succ, List.getElem_cons_zero, Act.put, List.setIfInBounds_toArray, List.set_cons_zero, List.set_cons_succ])
          refine wpAnyH_done (by kernel_rfl) ?_ _
          go_wp2_with fail
          have hst := hR1.set i (y ^^^ gm z x)
          rw [hRR.out, bv_xor] at hst
          exact ⟨⟨i + 1, by omega, by go_num, grown_trans hgD (grown_trans (grown_of_below hb1 _) (grown_set _ _ _ _)), by rw [HF1.out]; exact hst⟩, by simp [intOf]; omega⟩
        · go_simp
          refine (mul_calls z x hFD).mono ?_
          rintro e w1 ⟨rfl, hb1⟩
          go_wp2_with fail
          refine hK.out _ _ trivial (fun _ => ?_); clear hK K; (try simp only [List.getElem_toArray, List.getElem_cons_succ, List.getElem_cons_zero, Act.put, List.setIfInBounds_toArray, List.set_cons_zero, List.set_cons_succ])
          have hc1 := (hb1.cell (p := ⟨tb, i, none⟩) hRD.lt).trans hcTD
          refine wpAnyH_ready (rs := [5]) (by kernel_rfl) (by simp) ?_; refine AllReadyH.cons rfl (fun K hK => ?_) AllReadyH.nil
          go_simp
          go_wp2_with fail
          refine hK.out _ _ trivial (fun _ => ?_); clear hK K; (try simp only [List.getElem_toArray, List.getElem_cons_succ, List.getElem_cons_zero, Act.put, List.setIfInBounds_toArray, List.set_cons_zero, List.set_cons_succ])
          refine wpAnyH_ready (rs := [9]) (by kernel_rfl) (by simp) ?_; refine AllReadyH.cons rfl (fun K hK => ?_) AllReadyH.nil
          go_simp
          refine (add_calls _ _).mono ?_
          rintro e w2 ⟨rfl, rfl⟩
          go_wp2_with fail
          refine hK.out _ _ trivial (fun _ => ?_); clear hK K; (try simp only [List.getElem_toArray, List.getElem_cons_succ, List.getElem_cons_zero, Act.put, List.setIfInBounds_toArray, List.set_cons_zero, List.set_cons_succ])
          refine wpAnyH_take (i := 10) (v := ?_) rfl (by kernel_rfl) (by kernel_rfl) (by kernel_rfl) (fun _ _ _ h => h) (Or.inl ⟨by rfl, ?_⟩) (by assumption) ?_; rotate_left; (intro w hSw; (try dsimp only at hSw); go_simp; (first | done | (with_reducible rfl))); (try simp only [List.getElem_toArray, List.getElem_cons_succ, List.getElem_cons_zero, Act.put, List.setIfInBounds_toArray, List.set_cons_zero, List.set_cons_succ])
          have hR1 := hRD.below hb1 hRD.lt
          have hcs := hR1.cell (rowL_get (f := f2) hic)
          have hfs := hR1.frozen i
          refine wpAnyH_ready (rs := [11]) (by kernel_rfl) (by simp) ?_; refine AllReadyH.cons rfl (fun K hK => ?_) AllReadyH.nil
          go_simp
          go_wp2_with fail
          refine hK.out _ _ trivial (fun _ => ?_); clear hK K; (try simp only [List.getElem_toArray, List.getElem_cons_succ, List.getElem_cons_zero, Act.put, List.setIfInBounds_toArray, List.set_cons_zero, List.set_cons_succ])
          refine wpAnyH_done (by kernel_rfl) ?_ _
          go_wp2_with fail
          have hst := hR1.set i (y ^^^ gm z x)
          rw [hRR.out, bv_xor] at hst
          exact ⟨⟨i + 1, by omega, by go_num, grown_trans hgD (grown_trans (grown_of_below hb1 _) (grown_set _ _ _ _)), by rw [HF1.out]; exact hst⟩, by simp [intOf]; omega⟩
      · obtain rfl : i = c := by omega
        rw [HE.out] at hR
        go_wp2_with fail
        go_end0
        exact ⟨rfl, hg, hR⟩

/-- The heads in the making. -/
def headsAt (g r c i : Nat) : List Value := (List.range r).map fun k => if k < i then .slice (some ⟨g + 1 + k, 0, none⟩) c c else .slice none 0 0
theorem headsAt_zero (g r c : Nat) : headsAt g r c 0 = List.replicate r (.slice none 0 0) := by
  apply List.ext_getElem?
  intro k
  by_cases hk : k < r <;> simp [headsAt, hk]
theorem headsAt_set (g r c i : Nat) : (headsAt g r c i).set i (.slice (some ⟨g + 1 + i, 0, none⟩) c c) = headsAt g r c (i + 1) := by
  apply List.ext_getElem?
  intro k
  rw [List.getElem?_set]
  by_cases hki : i = k
  · subst hki
    by_cases hk : i < r <;> simp [headsAt, hk]
  · have h3 : (k < i + 1) = (k < i) := by simp; omega
    by_cases hk : k < r <;> simp [headsAt, hk, hki, h3]
theorem headsAt_end (g r c : Nat) : headsAt g r c r = headsV (fun k => g + 1 + k) r c := by
  refine List.map_congr_left ?_
  intro k hk
  have : k < r := by simpa using hk
  simp [this]
theorem headsAt_get (g r c i : Nat) (hi : i < r) : (headsAt g r c i)[i]? = some (.slice none 0 0) := by simp [headsAt, hi]

/-- A call answers a grid of its own. -/
def RetGrid (w : World) (r c : Nat) (M : Mx) (e : Ending) (w' : World) : Prop :=
  ∃ g blk, e = .returned (.slice (some ⟨g, 0, none⟩) r r) ∧ Grid w' w.heap.size g blk r c M ∧ Below w.heap.size w w'

set_option maxHeartbeats 400000 in
set_option maxRecDepth 100000 in
theorem grid_calls {w : World} {r c : Nat} (hr : r ≤ 1000000) (hc : c ≤ 1000000) :
    Calls Tryd.prog 60 #[.int .i64 (r : Int), .int .i64 (c : Int)] w (RetGrid w r c zeroM) := by
  go_enter Tryd.func60, Tryd.ntmps60
  go_wp2_with (first
    | (refine make_top rfl (.tmp 7) (.tmp 7) rfl r rfl rfl rfl rfl (by omega) ?_; intro w1 ht1 hb1 hs1))
  have HT := Lib.hid ht1
  clear ht1
  go_loopw [11] (fun s wr => ∃ i : Nat, i ≤ r ∧ s = .int .i64 ((i : Nat) : Int) ∧ wr.heap[w.heap.size]? = some (.cells (headsAt w.heap.size r c i).toArray 22 (0, 0)) ∧
    (∀ k, k < i → RowB wr (w.heap.size + 1 + k) (rowL c fun _ => 0#8)) ∧ wr.heap.size = w.heap.size + 1 + i ∧ Below w.heap.size w wr) (fun s _ => r - (intOf s).toNat)
  case atStart => exact ⟨0, by omega, rfl, by rw [headsAt_zero]; exact HT.out, by intro k hk; omega, by omega, hb1⟩
  case round =>
    obtain ⟨i, hi, rfl, ht, hrow, hs, hb⟩ := hrel
    have HR := Lib.hid hrow
    have HT' := Lib.hid ht
    clear hrow
    by_cases hir : i < r
    · have hii : (i : Int) < (r : Int) := by omega
      go_wp2_with (first
        | (refine make_row rfl (.tmp 16) (.tmp 16) rfl c rfl rfl rfl rfl (by omega) ?_; intro w2 hr2 hb2 hs2; have ht2 := (hb2.block w.heap.size (by omega)).trans HT'.out; have hc2 := cell_of_row w2 w.heap.size i _ _ (0, 0) ht2; rw [List.getElem?_toArray, headsAt_get _ _ _ _ hir] at hc2; have hf2 := frozen_of_row w2 w.heap.size i _ _ ht2; replace ht2 := Lib.hid ht2; have HR2 := Lib.hid hr2; clear hr2))
      have hset := heap_setCell_same w2 w.heap.size i _ _ (.slice (some ⟨w.heap.size + 1 + i, 0, none⟩) c c) ht2.out
      rw [List.setIfInBounds_toArray, headsAt_set] at hset
      have hgs := grown_set w2 w.heap.size i (.slice (some ⟨w.heap.size + 1 + i, 0, none⟩) c c)
      refine ⟨⟨i + 1, by omega, by go_num, hset, fun k hk => ?_, by simp [World.setCell]; omega, (hb.trans (hb2.mono (by omega))).trans ?_⟩, by simp [intOf]; omega⟩
      · by_cases hki : k < i
        · exact ((HR.out k hki).below hb2 (by omega)).grown hgs (by simp; omega)
        · obtain rfl : k = i := by omega
          have := HR2.out
          rw [hs] at this
          exact this.grown hgs (by simp; omega)
      · exact below_of_grown hgs (by omega) (by intro k hk; cases hk; omega)
    · obtain rfl : i = r := by omega
      go_wp2_with fail
      go_ret
      rw [headsAt_end] at ht
      exact ⟨w.heap.size, _, rfl, ⟨ht, HR.out, by intro a b _ _ h; omega, Nat.le_refl _, by intro k _; omega⟩, hb⟩

end Go.Proofs.YtibidlgikecelaaDoor
