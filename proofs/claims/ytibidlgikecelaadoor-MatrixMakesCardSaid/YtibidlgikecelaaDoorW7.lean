/- Words: a block that is a row of bytes, a grid of such rows. No program in sight but the types. -/
import Derived.Test.YtibidlgikecelaaDoorB
import Derived.Test.YtibidlgikecelaaDoorW6
import Derived.Test.YtibidlgikecelaaDoorG4
import Derived.Test.YtibidlgikecelaaDoorG3
import Derived.Laws.CopyOwn
namespace Go.Proofs.YtibidlgikecelaaDoor
open Go.RowKit
set_option linter.unusedVariables false
set_option linter.unusedSimpArgs false

/-- A row of c bytes by a function. -/
def rowL (c : Nat) (f : Nat → B8) : List B8 := (List.range c).map f
@[simp] theorem length_rowL (c : Nat) (f : Nat → B8) : (rowL c f).length = c := by simp [rowL]
theorem rowL_get {c j : Nat} {f : Nat → B8} (h : j < c) : (rowL c f)[j]? = some (f j) := by simp [rowL, h]
theorem rowL_congr {c : Nat} {f g : Nat → B8} (h : ∀ j, j < c → f j = g j) : rowL c f = rowL c g := by
  refine List.map_congr_left ?_
  intro j hj
  exact h j (by simpa using hj)
theorem rowL_set (c : Nat) (f : Nat → B8) (j : Nat) (x : B8) : (rowL c f).set j x = rowL c (fun i => if i = j then x else f i) := by
  apply List.ext_getElem?
  intro i
  rw [List.getElem?_set]
  by_cases hij : j = i
  · subst hij
    by_cases hj : j < c
    · simp [rowL, hj]
    · simp [rowL, hj]
  · have hij' : ¬ i = j := fun h => hij h.symm
    by_cases hi : i < c
    · simp [rowL, hij, hij', hi]
    · simp [rowL, hij, hij', hi]
theorem rowL_const (c : Nat) (x : B8) : rowL c (fun _ => x) = List.replicate c x := by
  apply List.ext_getElem?
  intro i
  by_cases hi : i < c <;> simp [rowL, hi]

/-- Block k is a row of bytes. -/
def RowB (w : World) (k : Nat) (l : List B8) : Prop := w.heap[k]? = some (.cells (bys l).toArray 5 (0, 0))
theorem RowB.lt {w : World} {k : Nat} {l : List B8} (h : RowB w k l) : k < w.heap.size := (Array.getElem?_eq_some_iff.1 h).1
theorem RowB.cell {w : World} {k j : Nat} {l : List B8} {x : B8} (h : RowB w k l) (hj : l[j]? = some x) : w.cell? ⟨k, j, none⟩ = some (.int .u8 (x.toNat : Int)) := by
  rw [cell_of_row w k j _ _ (0, 0) h, List.getElem?_toArray, bys_getElem?, hj]; rfl
theorem RowB.at {w : World} {k : Nat} {l : List B8} (h : RowB w k l) : At w (some ⟨k, 0, none⟩) (bys l) := by
  intro i x hx
  refine ⟨k, 0, rfl, ?_⟩
  rw [cell_of_row w k (0 + i) _ _ (0, 0) h, Nat.zero_add, List.getElem?_toArray]; exact hx
theorem RowB.frozen {w : World} {k : Nat} {l : List B8} (h : RowB w k l) (j : Nat) : w.frozen? ⟨k, j, none⟩ = false := frozen_of_row w k j _ _ h
theorem RowB.set {w : World} {k : Nat} {l : List B8} (h : RowB w k l) (j : Nat) (x : B8) : RowB (w.setCell ⟨k, j, none⟩ (bv x)) k (l.set j x) := by
  have := heap_setCell_same w k j _ _ (bv x) h
  unfold RowB
  rw [this, ← bys_set]
  simp
theorem grown_set (w : World) (k j : Nat) (x : Value) : w.grownBy (w.setCell ⟨k, j, none⟩ x) (some k) :=
  ⟨rfl, rfl, rfl, by simp, fun i _ hk => heap_setCell_other w ⟨k, j, none⟩ i x (fun e => hk (by simp [e]))⟩
theorem RowB.grown {w w' : World} {k : Nat} {l : List B8} {row : Option Nat} (h : RowB w k l) (hg : w.grownBy w' row) (hne : some k ≠ row) : RowB w' k l := by
  unfold RowB
  rw [hg.block k h.lt hne]; exact h
theorem RowB.below {w w' : World} {k B : Nat} {l : List B8} (h : RowB w k l) (hb : Below B w w') (hk : k < B) : RowB w' k l := by
  unfold RowB
  rw [hb.block k hk]; exact h
theorem RowB.of_own {w : World} {B k n : Nat} {l : List B8} (h : w.ownsRow B 5 1 (.slice (some ⟨k, 0, none⟩) n n) n (bys l)) : RowB w k l := by
  rcases h.2 with ⟨h', _⟩ | ⟨g', cap', cur, h', hb, hg, hnc, hcm, hcs, htake⟩
  · simp at h'
  · simp only [Value.slice.injEq, Option.some.injEq, Addr.mk.injEq, and_true, true_and] at h'
    obtain ⟨rfl, rfl⟩ := h'
    rw [List.take_of_length_le (by rw [Array.length_toList, hcs]; exact Nat.le_refl _)] at htake
    unfold RowB
    rw [hg, ← htake]
theorem RowB.own {w : World} {B k n : Nat} {l : List B8} (h : RowB w k l) (hn : n = l.length) (hB : B ≤ k) (hm : n ≤ maxLen) : w.ownsRow B 5 1 (.slice (some ⟨k, 0, none⟩) n n) n (bys l) := by
  subst hn
  exact ⟨by simp, .inr ⟨k, l.length, _, rfl, hB, h, Nat.le_refl _, hm, by simp, by rw [Nat.mul_one]; exact List.take_of_length_le (by simp)⟩⟩
theorem RowB.row {w : World} {k : Nat} {l : List B8} (h : RowB w k l) {n : Nat} (hn : n = l.length) (hm : n ≤ 140737488351232) : Row w (.slice (some ⟨k, 0, none⟩) n n) l := by
  subst hn
  exact ⟨_, _, rfl, h.at, Nat.le_refl _, (fun h => by cases h), hm⟩

theorem grown_of_below {w w' : World} (h : Below w.heap.size w w') (row : Option Nat) : w.grownBy w' row := ⟨h.os, h.tape, h.output, h.size, fun k hk _ => h.block k hk⟩
theorem below_of_grown {w w' : World} {row : Option Nat} {B : Nat} (h : w.grownBy w' row) (hB : B ≤ w.heap.size) (hr : ∀ k, row = some k → B ≤ k) : Below B w w' := (Below.refl B w).grown h hB hr
theorem grown_refl (w : World) (row : Option Nat) : w.grownBy w row := ⟨rfl, rfl, rfl, Nat.le_refl _, fun _ _ _ => rfl⟩
theorem grown_trans {a b c : World} {row : Option Nat} (h : a.grownBy b row) (k : b.grownBy c row) : a.grownBy c row :=
  ⟨k.os.trans h.os, k.tape.trans h.tape, k.output.trans h.output, Nat.le_trans h.size k.size, fun i hi hne => (k.block i (Nat.lt_of_lt_of_le hi h.size) hne).trans (h.block i hi hne)⟩
theorem At.grown' {w w' : World} {A : Option Addr} {vs : List Value} {row : Option Nat} (h : At w A vs) (hg : w.grownBy w' row) (hne : ∀ b off, A = some ⟨b, off, none⟩ → some b ≠ row) : At w' A vs := by
  intro i x hx
  obtain ⟨b, off, rfl, hc⟩ := h i x hx
  exact ⟨b, off, rfl, (World.cell?_of_block (hg.block b (block_lt hc) (hne b off rfl))).trans hc⟩

/-- The rows' heads. -/
def headsV (blk : Nat → Nat) (r c : Nat) : List Value := (List.range r).map fun i => .slice (some ⟨blk i, 0, none⟩) c c
@[simp] theorem length_headsV (blk : Nat → Nat) (r c : Nat) : (headsV blk r c).length = r := by simp [headsV]
theorem headsV_get {blk : Nat → Nat} {r c i : Nat} (h : i < r) : (headsV blk r c)[i]? = some (.slice (some ⟨blk i, 0, none⟩) c c) := by simp [headsV, h]
/-- Rows by a function. -/
def rowsL (r c : Nat) (M : Mx) : List (List B8) := (List.range r).map fun i => rowL c (M i)
@[simp] theorem length_rowsL (r c : Nat) (M : Mx) : (rowsL r c M).length = r := by simp [rowsL]
theorem rowsL_get {r c i : Nat} {M : Mx} (h : i < r) : (rowsL r c M)[i]? = some (rowL c (M i)) := by simp [rowsL, h]
theorem rowsL_congr {r c : Nat} {M N : Mx} (h : EqM r c M N) : rowsL r c M = rowsL r c N := by
  refine List.map_congr_left ?_
  intro i hi
  exact rowL_congr fun j hj => h i j (by simpa using hi) hj
theorem rowsL_inj {r c : Nat} {M N : Mx} (h : rowsL r c M = rowsL r c N) : EqM r c M N := by
  intro i j hi hj
  have h1 : (rowsL r c M)[i]? = (rowsL r c N)[i]? := by rw [h]
  rw [rowsL_get hi, rowsL_get hi] at h1
  have h2 : (rowL c (M i))[j]? = (rowL c (N i))[j]? := by rw [Option.some.inj h1]
  rw [rowL_get hj, rowL_get hj] at h2
  exact Option.some.inj h2
theorem rowsL_isB {r c : Nat} (M : Mx) (hr : 0 < r) (hr2 : r ≤ 255) (hc : 0 < c) (hc2 : c ≤ 255) : isB (rowsL r c M) = true := by
  have h0 : (rowsL r c M)[0]? = some (rowL c (M 0)) := rowsL_get hr
  rw [isB_of h0]
  have : oddRow (rowsL r c M) (rowL c (M 0)).length = -1 := by
    apply oddRow_no
    intro i l hi hl
    rw [rowsL_get (by simpa using hi)] at hl
    cases hl
    simp
  rw [this]
  simp [hr2, hc, hc2]

/-- Block g is a grid of rows, each in a block of its own. -/
structure Grid (w : World) (B g : Nat) (blk : Nat → Nat) (r c : Nat) (M : Mx) : Prop where
  top : w.heap[g]? = some (.cells (headsV blk r c).toArray 22 (0, 0))
  row : ∀ i, i < r → RowB w (blk i) (rowL c (M i))
  inj : ∀ i j, i < r → j < r → blk i = blk j → i = j
  geG : B ≤ g
  geB : ∀ i, i < r → B ≤ blk i

variable {w w' : World} {B g r c : Nat} {blk : Nat → Nat} {M : Mx}
theorem Grid.ltG (h : Grid w B g blk r c M) : g < w.heap.size := (Array.getElem?_eq_some_iff.1 h.top).1
theorem Grid.ne (h : Grid w B g blk r c M) {i : Nat} (hi : i < r) : blk i ≠ g := by
  intro he
  have h1 := h.row i hi
  unfold RowB at h1
  rw [he, h.top] at h1
  injection h1 with h1
  injection h1 with _ h1 _
  exact absurd h1 (by decide)
theorem Grid.cell (h : Grid w B g blk r c M) {i : Nat} (hi : i < r) : w.cell? ⟨g, i, none⟩ = some (.slice (some ⟨blk i, 0, none⟩) c c) := by
  rw [cell_of_row w g i _ _ (0, 0) h.top, List.getElem?_toArray, headsV_get hi]
theorem Grid.frozen (h : Grid w B g blk r c M) (i : Nat) : w.frozen? ⟨g, i, none⟩ = false := frozen_of_row w g i _ _ h.top
theorem Grid.at (h : Grid w B g blk r c M) : At w (some ⟨g, 0, none⟩) (headsV blk r c) := by
  intro i x hx
  refine ⟨g, 0, rfl, ?_⟩
  rw [cell_of_row w g (0 + i) _ _ (0, 0) h.top, Nat.zero_add, List.getElem?_toArray]; exact hx
theorem Grid.texts (h : Grid w B g blk r c M) (hm : c ≤ 140737488351232) : Texts w (headsV blk r c) (rowsL r c M) := by
  refine ⟨by simp, ?_⟩
  intro i v l h1 h2
  have hi : i < r := by
    rcases Nat.lt_or_ge i r with h | h
    · exact h
    · rw [List.getElem?_eq_none (by simpa using h)] at h1; cases h1
  rw [headsV_get hi] at h1
  rw [rowsL_get hi] at h2
  cases h1; cases h2
  exact (h.row i hi).row (by simp) hm
theorem Grid.grown (h : Grid w B g blk r c M) (hg : w.grownBy w' none) : Grid w' B g blk r c M := by
  refine ⟨?_, fun i hi => (h.row i hi).grown hg (by simp), h.inj, h.geG, h.geB⟩
  rw [hg.block g h.ltG (by simp)]; exact h.top
theorem Grid.below (h : Grid w B g blk r c M) (hb : Below w.heap.size w w') : Grid w' B g blk r c M := h.grown (grown_of_below hb none)
/-- A row is changed. -/
theorem Grid.setRow (h : Grid w B g blk r c M) {i : Nat} (hi : i < r) {f : Nat → B8} (hg : w.grownBy w' (some (blk i))) (hr : RowB w' (blk i) (rowL c f)) :
    Grid w' B g blk r c (fun k => if k = i then f else M k) := by
  refine ⟨?_, fun k hk => ?_, h.inj, h.geG, h.geB⟩
  · rw [hg.block g h.ltG (by simpa using Ne.symm (h.ne hi))]; exact h.top
  · by_cases hki : k = i
    · subst hki; rw [if_pos rfl]; exact hr
    · rw [if_neg hki]
      exact (h.row k hk).grown hg (by simpa using fun he => hki (h.inj k i hk hi he))
theorem Grid.congr (h : Grid w B g blk r c M) {N : Mx} (hN : EqM r c M N) : Grid w B g blk r c N :=
  ⟨h.top, fun i hi => by have := h.row i hi; rwa [rowL_congr (fun j hj => hN i j hi hj)] at this, h.inj, h.geG, h.geB⟩
/-- Block 0 stays where only newer blocks change. -/
theorem FoldAt.grown (h : FoldAt w) {row : Option Nat} (hg : w.grownBy w' row) (hne : row ≠ some 0) : FoldAt w' := by
  refine At.grown' h hg ?_
  intro b off he
  cases he
  exact fun h => hne h.symm
theorem FoldAt.below (h : FoldAt w) (hb : Below w.heap.size w w') : FoldAt w' := At.below h hb
theorem FoldAt.lt (h : FoldAt w) : 0 < w.heap.size := by
  obtain ⟨b, off, he, hc⟩ := h 0 (bv 0#8) rfl
  cases he
  exact block_lt hc

theorem bys_toArray_toList (l : List B8) : (bys l).toArray.toList = bys l := rfl
/-- copy(row, text): the text lies over the row from place off on. -/
theorem wp_copy_row {w : World} {o : Oper} {a : Act} {K : Act → World → Prop} {Q : Exit → Act → World → Prop} (d s : Operand)
    (ho : o.op = .call { callee := .builtin .copy, args := #[d, s], argTypes := #[22, 22] })
    {g off dLen dCap sLen sCap : Nat} {A : Option Addr} (hd : a.eval d = .slice (some ⟨g, off, none⟩) dLen dCap) (hs : a.eval s = .slice A sLen sCap)
    {l src : List B8} (hg : RowB w g l) (hA : At w A (bys src)) (hn : src.length = Nat.min sLen dLen) (hpos : 0 < src.length) (hfit : off + src.length ≤ l.length)
    (h : ∀ w', RowB w' g (l.take off ++ (src ++ l.drop (off + src.length))) → w.grownBy w' (some g) → K (a.put o.dst (goInt src.length)) w') :
    o.wp Tryd.prog a w K Q := by
  obtain ⟨b, o2, rfl⟩ := some_of_at hA (by simpa using hpos)
  have hinfo : (Tryd.prog.info? 5).map (·.size) = some 1 := by kernel_rfl
  have hrun := run_copy_row (P := Tryd.prog) w 22 22 o.type 5 g off dLen dCap ⟨b, o2, none⟩ sLen sCap _ _ (bys src) Tryd.underlying22 hinfo hg (by simpa using hn) hA.add (by simpa using hfit) (bys_one _)
  have hset := setRow_heap w g _ ((bys l).toArray.toList.take off ++ bys src ++ (bys l).toArray.toList.drop (off + (bys src).length)).toArray _ _ hg
  unfold Oper.wp
  simp only [execOp, ho, resolve, invoke, builtin, hd, hs]
  simp [hd, hs, hrun, Result.andThen]
  refine h _ ?_ ⟨rfl, rfl, rfl, by simp [World.setRow], fun k _ hk => setRow_other w g k _ (fun e => hk (by rw [e]))⟩
  unfold RowB
  rw [bys_append, bys_append, ← bys_take, ← bys_drop]
  simpa using hset
theorem copy_row {w : World} {ops : Array Oper} {rest : List Oper} {o : Oper} {a : Act} {Q : Exit → Act → World → Prop} (hgd : o.guard = none) (d s : Operand)
    (ho : o.op = .call { callee := .builtin .copy, args := #[d, s], argTypes := #[22, 22] })
    {g off dLen dCap sLen sCap : Nat} {A : Option Addr} (hd : a.eval d = .slice (some ⟨g, off, none⟩) dLen dCap) (hs : a.eval s = .slice A sLen sCap)
    {l src : List B8} (hg : RowB w g l) (hA : At w A (bys src)) (hn : src.length = Nat.min sLen dLen) (hpos : 0 < src.length) (hfit : off + src.length ≤ l.length)
    (h : ∀ w', RowB w' g (l.take off ++ (src ++ l.drop (off + src.length))) → w.grownBy w' (some g) → wpList Tryd.prog ops Q rest (a.put o.dst (goInt src.length)) w') :
    wpList Tryd.prog ops Q (o :: rest) a w :=
  wpList_plain hgd fun _ hK' => wp_copy_row d s ho hd hs hg hA hn hpos hfit fun w' h1 h2 => hK' _ _ (h w' h1 h2)
theorem step_copy_row {w : World} {ops : Array Oper} {E : Prop} {o : Oper} {a : Act} {K : Act → World → Prop} {Q : Exit → Act → World → Prop} (hgd : o.guard = none) (d s : Operand)
    (ho : o.op = .call { callee := .builtin .copy, args := #[d, s], argTypes := #[22, 22] })
    {g off dLen dCap sLen sCap : Nat} {A : Option Addr} (hd : a.eval d = .slice (some ⟨g, off, none⟩) dLen dCap) (hs : a.eval s = .slice A sLen sCap)
    {l src : List B8} (hg : RowB w g l) (hA : At w A (bys src)) (hn : src.length = Nat.min sLen dLen) (hpos : 0 < src.length) (hfit : off + src.length ≤ l.length)
    (h : ∀ w', RowB w' g (l.take off ++ (src ++ l.drop (off + src.length))) → w.grownBy w' (some g) → K (a.put o.dst (goInt src.length)) w') :
    if Region.wanted o (yielded ops a.tmps) = true then o.wp Tryd.prog a w K Q else E := by
  rw [if_pos (by simp [Region.wanted, hgd])]
  exact wp_copy_row d s ho hd hs hg hA hn hpos hfit h
/-- A row that lies over another one of its length. -/
theorem over_full {l src : List B8} (h : src.length = l.length) : l.take 0 ++ (src ++ l.drop (0 + src.length)) = src := by
  simp [h]

/-- make([]byte, n): a row of noughts. -/
theorem make_row {w : World} {ops : Array Oper} {rest : List Oper} {o : Oper} {a : Act} {Q : Exit → Act → World → Prop}
    (hg : o.guard = none) (l c : Operand) (hop : o.op = Op.makeSlice 22 l c) {L C : Int} (n : Nat) (hl : a.eval l = .int .i64 L) (hc : a.eval c = .int .i64 C) (hL : L = (n : Int)) (hC : C = (n : Int))
    (b2 : n ≤ 140737488351232)
    (hK : ∀ w', RowB w' w.heap.size (rowL n fun _ => 0#8) → Below w.heap.size w w' → w'.heap.size = w.heap.size + 1 → wpList Tryd.prog ops Q rest (a.put o.dst (.slice (some ⟨w.heap.size, 0, none⟩) n n)) w') :
    wpList Tryd.prog ops Q (o :: rest) a w := by
  subst hL hC
  obtain ⟨i, hi, hz0, hz1, hz2⟩ := info_parts u8info
  refine wpList_plain hg fun K hK' => ?_
  have hr := run_make (P := Tryd.prog) w 22 5 i (.int .u8 0) Tryd.underlying22 hi hz0 .i64 .i64 n n (by omega) (Int.le_refl _) (by rw [hz2]; omega) (by omega)
  simp only [Int.toNat_natCast] at hr
  unfold Oper.wp
  simp [execOp, hop, hl, hc, hr, Result.andThen]
  refine hK' _ _ (hK _ ?_ (below1' _ _) (by simp))
  unfold RowB
  rw [heap_alloc_new]
  congr 2
  rw [hz1, Nat.mul_one, rowL_const]
  apply Array.ext'
  rw [show (Value.int .u8 0).cells = #[Value.int .u8 0] from rfl, toList_madeCells_one]
  simp [bys, bv]
theorem headinfo : (Tryd.prog.info? 22).map (fun i => (i.zero, i.size, i.bytes)) = some (some (.slice none 0 0), 1, 24) := by kernel_rfl
/-- make([][]byte, n). -/
theorem make_top {w : World} {ops : Array Oper} {rest : List Oper} {o : Oper} {a : Act} {Q : Exit → Act → World → Prop}
    (hg : o.guard = none) (l c : Operand) (hop : o.op = Op.makeSlice 24 l c) {L C : Int} (n : Nat) (hl : a.eval l = .int .i64 L) (hc : a.eval c = .int .i64 C) (hL : L = (n : Int)) (hC : C = (n : Int))
    (b2 : n ≤ 1000000)
    (hK : ∀ w', w'.heap[w.heap.size]? = some (.cells (List.replicate n (Value.slice none 0 0)).toArray 22 (0, 0)) → Below w.heap.size w w' → w'.heap.size = w.heap.size + 1 → wpList Tryd.prog ops Q rest (a.put o.dst (.slice (some ⟨w.heap.size, 0, none⟩) n n)) w') :
    wpList Tryd.prog ops Q (o :: rest) a w := by
  subst hL hC
  obtain ⟨i, hi, hz0, hz1, hz2⟩ := info_parts headinfo
  refine wpList_plain hg fun K hK' => ?_
  have hr := run_make (P := Tryd.prog) w 24 22 i (.slice none 0 0) Tryd.underlying24 hi hz0 .i64 .i64 n n (by omega) (Int.le_refl _) (by rw [hz2]; omega) (by omega)
  simp only [Int.toNat_natCast] at hr
  unfold Oper.wp
  simp [execOp, hop, hl, hc, hr, Result.andThen]
  refine hK' _ _ (hK _ ?_ (below1' _ _) (by simp))
  rw [heap_alloc_new]
  congr 2
  rw [hz1, Nat.mul_one]
  apply Array.ext'
  rw [show (Value.slice none 0 0).cells = #[Value.slice none 0 0] from rfl, toList_madeCells_one]

end Go.Proofs.YtibidlgikecelaaDoor
