/- Frames of commands: whether numbers are too wide; commands by value; frame.mayCmd. -/
import Derived.Test.YtfcacplecapgfaaI0
import Derived.Test.YtfcacplecapgfaaB
namespace Go.Proofs.Ytfcacplecapgfaa
open Go.RowKit
set_option linter.unusedVariables false
set_option linter.unusedSimpArgs false

/-- A call answers a value, and lays no more than what is new. -/
def RetV (w : World) (v : Value) (e : Ending) (w' : World) : Prop := e = .returned v ∧ Below w.heap.size w w'
theorem below1' (w : World) (o1 : Obj) : Below w.heap.size w (w.alloc o1) := (Below.refl _ _).alloc (Nat.le_refl _) _
/-- Whether one of the first n is. -/
def anyB (b : Nat → Bool) (n : Nat) : Bool := (List.range n).any b
/-- The first that is, and -1 where there is none. -/
def firstZ (b : Nat → Bool) (n : Nat) : Int := match (List.range n).find? b with | some k => (k : Int) | none => -1
theorem firstZ_any (b : Nat → Bool) (n : Nat) : decide (0 ≤ firstZ b n) = anyB b n := by
  unfold firstZ anyB
  cases h : (List.range n).find? b with
  | none =>
    have : (List.range n).any b = false := by
      rw [List.any_eq_false]
      intro x hx
      have := (List.find?_eq_none.1 h) x hx
      exact this
    rw [this]; rfl
  | some k =>
    have : (List.range n).any b = true := by
      rw [List.any_eq_true]
      exact ⟨k, List.mem_of_find?_eq_some h, List.find?_some h⟩
    rw [this]
    simp
theorem find_range {b : Nat → Bool} : ∀ (n : Nat) {k : Nat}, k < n → b k = true → (∀ i, i < k → b i = false) → (List.range n).find? b = some k
  | 0, k, h, _, _ => by omega
  | n + 1, k, h, hk, hl => by
    rw [List.range_succ, List.find?_append]
    by_cases hkn : k < n
    · rw [find_range n hkn hk hl]; rfl
    · obtain rfl : k = n := by omega
      have : (List.range k).find? b = none := by
        rw [List.find?_eq_none]
        intro x hx
        simp [hl x (List.mem_range.1 hx)]
      rw [this]
      simp [hk]
theorem firstZ_at {b : Nat → Bool} {n k : Nat} (h : k < n) (hk : b k = true) (hl : ∀ i, i < k → b i = false) : firstZ b n = (k : Int) := by
  unfold firstZ
  rw [find_range n h hk hl]
theorem firstZ_no {b : Nat → Bool} {n : Nat} (h : ∀ i, i < n → b i = false) : firstZ b n = -1 := by
  unfold firstZ
  have : (List.range n).find? b = none := by
    rw [List.find?_eq_none]
    intro x hx
    simp [h x (List.mem_range.1 hx)]
  rw [this]
theorem anyB_false {b : Nat → Bool} {n : Nat} : anyB b n = false ↔ ∀ i, i < n → b i = false := by
  unfold anyB
  rw [List.any_eq_false]
  constructor
  · intro h i hi
    have := h i (List.mem_range.2 hi)
    simpa using this
  · intro h x hx
    simp [h x (List.mem_range.1 hx)]

set_option maxHeartbeats 800000 in
set_option maxRecDepth 100000 in
theorem wdg_gidx {w : World} {A : Option Addr} {n c : Nat} {p q : Value} {vs : List Value} {b : Nat → Bool} (hA : At w A vs) (hn : n = vs.length) (hmax : n ≤ 140737488355328)
    (HF : ∀ wq : World, Below w.heap.size w wq → ∀ (i : Nat) v, vs[i]? = some v → Calls Try.prog 59 #[v, p] wq fun e w' => e = .returned (.bool (b i)) ∧ Below wq.heap.size wq w') :
    Calls Try.prog 61 #[.slice A n c, .func (.func 59) #[] #[p]] w fun e w' => e = .returned (.int .i64 (firstZ b n)) ∧ Below w.heap.size w w' := by
  subst hn
  generalize hr : firstZ b vs.length = r
  have HR := Lib.hid hr
  clear hr
  go_enter Try.func61, Try.ntmps61
  go_wp2_with fail
  go_loopw [8] (fun s8 wr => ∃ j : Nat, j ≤ vs.length ∧ s8 = .int .i64 ((j : Nat) : Int) ∧ Below w.heap.size w wr ∧ Hid (∀ i, i < j → b i = false)) (fun s8 _ => vs.length - (intOf s8).toNat)
  case atStart => exact ⟨0, by omega, rfl, Below.refl _ _, fun i hi => by omega⟩
  case round =>
    obtain ⟨j, hj, rfl, hb, HALL⟩ := hrel
    by_cases hjl : j < vs.length
    · obtain ⟨b', o', rfl, hc⟩ := (hA.below hb) j _ (List.getElem?_eq_getElem hjl)
      have hC := Lib.hid (HF wr hb j _ (List.getElem?_eq_getElem hjl))
      have hji : (j : Int) < (vs.length : Int) := by omega
      generalize vs[j] = v at *
      cases hbj : b j with
      | false =>
        rw [hbj] at hC
        have HJ := Lib.hid hbj
        clear hbj
        go_wp2_with fail
        refine hC.out.mono ?_
        rintro e w' ⟨rfl, hb'⟩
        go_wp2_with fail
        refine ⟨⟨j + 1, by omega, by go_num, hb.trans (hb'.mono hb.size), fun i hi => ?_⟩, by simp [intOf]; omega⟩
        by_cases hij : i < j
        · exact HALL.out i hij
        · obtain rfl : i = j := by omega
          exact HJ.out
      | true =>
        rw [hbj] at hC
        have HJ := Lib.hid hbj
        clear hbj
        go_wp2_with fail
        refine hC.out.mono ?_
        rintro e w' ⟨rfl, hb'⟩
        go_wp2_with fail
        go_ret
        refine ⟨ret_int ?_, hb.trans (hb'.mono hb.size)⟩
        rw [← HR.out]
        exact (firstZ_at hjl HJ.out HALL.out).symm
    · obtain rfl : j = vs.length := by omega
      go_wp2_with fail
      go_ret
      refine ⟨ret_int ?_, hb⟩
      rw [← HR.out]
      exact (firstZ_no HALL.out).symm

set_option maxHeartbeats 800000 in
set_option maxRecDepth 100000 in
theorem wdg_ghas {w : World} {A : Option Addr} {n c : Nat} {p q : Value} {vs : List Value} {b : Nat → Bool} (hA : At w A vs) (hn : n = vs.length) (hmax : n ≤ 140737488355328)
    (HF : ∀ wq : World, Below w.heap.size w wq → ∀ (i : Nat) v, vs[i]? = some v → Calls Try.prog 59 #[v, p] wq fun e w' => e = .returned (.bool (b i)) ∧ Below wq.heap.size wq w') :
    Calls Try.prog 58 #[.slice A n c, .func (.func 59) #[] #[p]] w (RetV w (.bool (anyB b n))) := by
  have HC0 := wdg_gidx (c := c) (p := p) (q := q) hA hn hmax HF
  rw [← firstZ_any]
  generalize firstZ b n = r at *
  have HC := Lib.hid HC0
  clear HF HC0 hn
  go_enter Try.func58, Try.ntmps58
  go_wp2_with fail
  refine HC.out.mono ?_
  rintro e w' ⟨rfl, hb⟩
  go_wp2_with fail
  go_ret
  exact ⟨rfl, hb⟩

/-- One of some numbers is too great, or below 0. -/
def wideB (most : Int) (l : List Int) : Bool := l.any fun n => decide (n < 0) || decide (most < n)
theorem any_range {l : List Int} {f : Int → Bool} : anyB (fun i => f (l.getD i 0)) l.length = l.any f := by
  cases h : l.any f with
  | false =>
    rw [anyB_false]
    intro i hi
    rw [List.any_eq_false] at h
    rw [List.getD_eq_getElem?_getD, List.getElem?_eq_getElem hi]
    have := h l[i] (List.getElem_mem hi)
    simpa using this
  | true =>
    cases h2 : anyB (fun i => f (l.getD i 0)) l.length with
    | true => rfl
    | false =>
      rw [anyB_false] at h2
      rw [List.any_eq_true] at h
      obtain ⟨x, hx, hf⟩ := h
      obtain ⟨i, hi, rfl⟩ := List.getElem_of_mem hx
      have := h2 i hi
      rw [List.getD_eq_getElem?_getD, List.getElem?_eq_getElem hi] at this
      simp [hf] at this

set_option maxHeartbeats 400000 in
theorem wide1_calls {w : World} {p : Nat} {n most : Int} (hp : w.cell? ⟨p, 0, none⟩ = some (.int .i64 most)) :
    Calls Try.prog 59 #[.int .i64 n, .pointer (some ⟨p, 0, none⟩)] w fun e w' => e = .returned (.bool (decide (n < 0) || decide (most < n))) ∧ w = w' := by
  by_cases h : n < 0
  · have hd : decide (n < 0) = true := decide_eq_true h
    rw [hd]
    clear h
    go_enter Try.func59, Try.ntmps59
    go_wp2_with fail
    go_ret
    exact ⟨rfl, rfl⟩
  · have hd : decide (n < 0) = false := decide_eq_false h
    rw [hd]
    clear h
    generalize hb : decide (most < n) = b
    go_enter Try.func59, Try.ntmps59
    go_wp2_with fail
    go_ret
    exact ⟨rfl, rfl⟩

set_option maxHeartbeats 400000 in
theorem wide_calls {w : World} {most : Int} {A : Option Addr} {n c : Nat} {l : List Int} (hA : At w A (ints l)) (hn : n = l.length) (hmax : n ≤ 140737488355328) :
    Calls Try.prog 47 #[.int .i64 most, .slice A n c] w (RetV w (.bool (wideB most l))) := by
  have hb1 := below1' w (.cells #[.int .i64 most] 3)
  have hp : (w.alloc (.cells #[.int .i64 most] 3)).cell? ⟨w.heap.size, 0, none⟩ = some (.int .i64 most) := cell_of_row _ _ 0 _ _ (0, 0) (heap_alloc_new w _)
  have HC := wdg_ghas (n := n) (c := c) (p := .pointer (some ⟨w.heap.size, 0, none⟩)) (q := .bool true) (b := fun i => decide (l.getD i 0 < 0) || decide (most < l.getD i 0)) (hA.below hb1) (by simp [hn]) hmax (fun wq hq i v hv => by
    rw [ints_getElem?] at hv
    cases hx : l[i]? with
    | none => rw [hx] at hv; cases hv
    | some x =>
      rw [hx] at hv
      cases hv
      rw [List.getD_eq_getElem?_getD, hx]
      exact (wide1_calls ((hq.cell (p := ⟨w.heap.size, 0, none⟩) (block_lt hp)).trans hp)).mono fun e w' ⟨h1, h2⟩ => ⟨h1, h2 ▸ Below.refl _ _⟩)
  rw [hn, any_range (f := fun n => decide (n < 0) || decide (most < n)), ← hn] at HC
  change Calls _ _ _ _ (RetV _ (.bool (wideB most l))) at HC
  generalize wideB most l = r at *
  have HC := Lib.hid HC
  clear hn
  go_enter Try.func47, Try.ntmps47
  go_wp2_with fail
  refine HC.out.mono ?_
  rintro e w' ⟨rfl, hb⟩
  go_wp2_with fail
  go_ret
  exact ⟨rfl, hb1.trans (hb.mono hb1.size)⟩

/-- A command without its nodes. -/
structure Cm where
  id : Int
  kind : Int
  key : ByteArray
  blob : Int
  other : Int
  index : Int
  node : Int
  size : Int
  sum : Int
  k : Int
  m : Int
/-- A command's value. -/
def cmv (c : Cm) (v : Value) : Value := .agg #[.int .i64 c.id, .int .i64 c.kind, .string c.key, .int .i64 c.blob, .int .i64 c.other, .int .i64 c.index, .int .i64 c.node, .int .i64 c.size, .int .u32 c.sum, .int .i64 c.k, .int .i64 c.m, v]
/-- A command. -/
abbrev Cd := Cm × List Int

/-- A command may be. -/
def mayC (c : Cm) (l : List Int) : Bool := !wideB 1152921504606846976 [c.id, c.blob, c.other, c.index, c.size] && !wideB 12 [c.kind] && !wideB 15 [c.node] && !wideB 255 [c.k, c.m, (l.length : Int)] && decide (c.key.size ≤ 8) && !wideB 15 l

theorem cells_of {w : World} {g : Nat} {c : Cm} {v : Value} {t : TypeId} {fz : Nat × Nat} (h : w.heap[g]? = some (.cells #[.int .i64 c.id, .int .i64 c.kind, .string c.key, .int .i64 c.blob, .int .i64 c.other, .int .i64 c.index, .int .i64 c.node, .int .i64 c.size, .int .u32 c.sum, .int .i64 c.k, .int .i64 c.m, v] t fz)) : w.cell? ⟨g, 0, none⟩ = some (.int .i64 c.id) ∧ w.cell? ⟨g, 1, none⟩ = some (.int .i64 c.kind) ∧ w.cell? ⟨g, 2, none⟩ = some (.string c.key) ∧ w.cell? ⟨g, 3, none⟩ = some (.int .i64 c.blob) ∧ w.cell? ⟨g, 4, none⟩ = some (.int .i64 c.other) ∧ w.cell? ⟨g, 5, none⟩ = some (.int .i64 c.index) ∧ w.cell? ⟨g, 6, none⟩ = some (.int .i64 c.node) ∧ w.cell? ⟨g, 7, none⟩ = some (.int .i64 c.size) ∧ w.cell? ⟨g, 8, none⟩ = some (.int .u32 c.sum) ∧ w.cell? ⟨g, 9, none⟩ = some (.int .i64 c.k) ∧ w.cell? ⟨g, 10, none⟩ = some (.int .i64 c.m) ∧ w.cell? ⟨g, 11, none⟩ = some v :=
  ⟨cell_of_row w g 0 _ t fz h, cell_of_row w g 1 _ t fz h, cell_of_row w g 2 _ t fz h, cell_of_row w g 3 _ t fz h, cell_of_row w g 4 _ t fz h, cell_of_row w g 5 _ t fz h, cell_of_row w g 6 _ t fz h, cell_of_row w g 7 _ t fz h, cell_of_row w g 8 _ t fz h, cell_of_row w g 9 _ t fz h, cell_of_row w g 10 _ t fz h, cell_of_row w g 11 _ t fz h⟩
/-- A command's box. -/
theorem cmd_box (w : World) (c : Cm) (v : Value) : ∃ wb, wb = w.alloc (.cells #[.int .i64 c.id, .int .i64 c.kind, .string c.key, .int .i64 c.blob, .int .i64 c.other, .int .i64 c.index, .int .i64 c.node, .int .i64 c.size, .int .u32 c.sum, .int .i64 c.k, .int .i64 c.m, v] 27) ∧ Below w.heap.size w wb ∧ wb.heap[w.heap.size]? = some (.cells #[.int .i64 c.id, .int .i64 c.kind, .string c.key, .int .i64 c.blob, .int .i64 c.other, .int .i64 c.index, .int .i64 c.node, .int .i64 c.size, .int .u32 c.sum, .int .i64 c.k, .int .i64 c.m, v] 27 (0, 0)) ∧ wb.heap.size = w.heap.size + 1 :=
  ⟨_, rfl, below1' w _, heap_alloc_new w _, by simp⟩

set_option maxHeartbeats 2000000 in
set_option maxRecDepth 100000 in
theorem mayCmd_calls {w : World} (c : Cm) {A : Option Addr} {n d : Nat} {l : List Int} (hA : At w A (ints l)) (hn : n = l.length) (hmax : n ≤ 140737488355328) :
    Calls Try.prog 23 #[.agg #[.int .i64 c.id, .int .i64 c.kind, .string c.key, .int .i64 c.blob, .int .i64 c.other, .int .i64 c.index, .int .i64 c.node, .int .i64 c.size, .int .u32 c.sum, .int .i64 c.k, .int .i64 c.m, .slice A n d]] w (RetV w (.bool (mayC c l))) := by
  obtain ⟨wb, hwb, hB, hr, hz⟩ := cmd_box w c (.slice A n d)
  have HWB := Lib.hid hwb
  clear hwb
  have HA := Lib.hid hA
  have HM := Lib.hid hmax
  have HR : Hid (mayC c l = (!wideB 1152921504606846976 [c.id, c.blob, c.other, c.index, c.size] && !wideB 12 [c.kind] && !wideB 15 [c.node] && !wideB 255 [c.k, c.m, (l.length : Int)] && decide (c.key.size ≤ 8) && !wideB 15 l)) := rfl
  rw [← hn] at HR
  have HN := Lib.hid hn
  generalize mayC c l = r at *
  have hk8 : decide ((c.key.size : Int) ≤ 8) = decide (c.key.size ≤ 8) := by
    by_cases h : c.key.size ≤ 8
    · rw [decide_eq_true h, decide_eq_true (by omega)]
    · rw [decide_eq_false h, decide_eq_false (by omega)]
  generalize decide (c.key.size ≤ 8) = b5 at *
  obtain ⟨c0, c1, c2, c3, c4, c5, c6, c7, c8, c9, c10, c11⟩ := cells_of hr
  clear hA hmax hn
  go_enter Try.func23, Try.ntmps23
  go_wp2_with fail
  have hwb := HWB.out
  rw [← hwb]
  clear hwb HWB
  have hlt : w.heap.size < wb.heap.size := by omega
  have hat : At (wb.alloc (.cells #[.int .i64 c.id, .int .i64 c.blob, .int .i64 c.other, .int .i64 c.index, .int .i64 c.size] 3)) (some ⟨w.heap.size + 1, 0, none⟩) (ints [c.id, c.blob, c.other, c.index, c.size]) := by
    have := at_new wb #[.int .i64 c.id, .int .i64 c.blob, .int .i64 c.other, .int .i64 c.index, .int .i64 c.size] 3 (0, 0)
    rw [hz] at this
    exact this
  refine (wide_calls (l := [c.id, c.blob, c.other, c.index, c.size]) hat rfl (by simp)).mono ?_
  clear hat
  rintro e w1 ⟨rfl, hb⟩
  have hq : Below wb.heap.size wb w1 := (below1' wb _).trans (hb.mono (by simp))
  have hB1 := hB.trans (hq.mono hB.size)
  have hr1 := (hq.block w.heap.size hlt).trans hr
  have hl1 := Nat.lt_of_lt_of_le hlt hq.size
  clear hb hq c0 c1 c2 c3 c4 c5 c6 c7 c8 c9 c10 c11 hr
  obtain ⟨c0, c1, c2, c3, c4, c5, c6, c7, c8, c9, c10, c11⟩ := cells_of hr1
  generalize wideB 1152921504606846976 [c.id, c.blob, c.other, c.index, c.size] = b at *
  cases b with
  | true =>
    go_wp2_with fail
    go_ret
    exact ⟨ret_bool (by rw [HR.out]; simp), hB1⟩
  | false =>
    go_wp2_with fail
    refine (wide_calls (l := [c.kind]) (at_new _ _ _ _) rfl (by simp)).mono ?_
    rintro e w2 ⟨rfl, hb⟩
    have hq : Below w1.heap.size w1 w2 := (below1' w1 _).trans (hb.mono (by simp))
    have hB2 := hB1.trans (hq.mono hB1.size)
    have hr2 := (hq.block w.heap.size hl1).trans hr1
    have hl2 := Nat.lt_of_lt_of_le hl1 hq.size
    clear hb hq c0 c1 c2 c3 c4 c5 c6 c7 c8 c9 c10 c11 hr1
    obtain ⟨c0, c1, c2, c3, c4, c5, c6, c7, c8, c9, c10, c11⟩ := cells_of hr2
    generalize wideB 12 [c.kind] = b at *
    cases b with
    | true =>
      go_wp2_with fail
      go_ret
      exact ⟨ret_bool (by rw [HR.out]; simp), hB2⟩
    | false =>
      go_wp2_with fail
      refine (wide_calls (l := [c.node]) (at_new _ _ _ _) rfl (by simp)).mono ?_
      rintro e w3 ⟨rfl, hb⟩
      have hq : Below w2.heap.size w2 w3 := (below1' w2 _).trans (hb.mono (by simp))
      have hB3 := hB2.trans (hq.mono hB2.size)
      have hr3 := (hq.block w.heap.size hl2).trans hr2
      have hl3 := Nat.lt_of_lt_of_le hl2 hq.size
      clear hb hq c0 c1 c2 c3 c4 c5 c6 c7 c8 c9 c10 c11 hr2
      obtain ⟨c0, c1, c2, c3, c4, c5, c6, c7, c8, c9, c10, c11⟩ := cells_of hr3
      generalize wideB 15 [c.node] = b at *
      cases b with
      | true =>
        go_wp2_with fail
        go_ret
        exact ⟨ret_bool (by rw [HR.out]; simp), hB3⟩
      | false =>
        go_wp2_with fail
        refine (wide_calls (l := [c.k, c.m, (n : Int)]) (at_new _ _ _ _) rfl (by simp)).mono ?_
        rintro e w4 ⟨rfl, hb⟩
        have hq : Below w3.heap.size w3 w4 := (below1' w3 _).trans (hb.mono (by simp))
        have hB4 := hB3.trans (hq.mono hB3.size)
        have hr4 := (hq.block w.heap.size hl3).trans hr3
        have hl4 := Nat.lt_of_lt_of_le hl3 hq.size
        clear hb hq c0 c1 c2 c3 c4 c5 c6 c7 c8 c9 c10 c11 hr3
        obtain ⟨c0, c1, c2, c3, c4, c5, c6, c7, c8, c9, c10, c11⟩ := cells_of hr4
        generalize wideB 255 [c.k, c.m, (n : Int)] = b at *
        cases b with
        | true =>
          go_wp2_with fail
          go_ret
          exact ⟨ret_bool (by rw [HR.out]; simp), hB4⟩
        | false =>
          cases b5 with
          | false =>
            go_wp2_with fail
            go_ret
            exact ⟨ret_bool (by rw [HR.out]; simp), hB4⟩
          | true =>
            have HC := Lib.hid (wide_calls (w := w4) (most := 15) (c := d) (HA.out.below hB4) HN.out HM.out)
            generalize wideB 15 l = b at *
            go_wp2_with fail
            refine HC.out.mono ?_
            rintro e w5 ⟨rfl, hb⟩
            go_wp2_with fail
            go_ret
            exact ⟨ret_bool (by rw [HR.out]; simp), hB4.trans (hb.mono hB4.size)⟩

end Go.Proofs.Ytfcacplecapgfaa
