/- Slices of whole numbers: what they read as, append. -/
import Derived.Test.YtfcacplecapgfaaV
import Derived.Test.YtfcacplecapgfaaChecked
import Derived.Lib.SliceRun
import Derived.Laws.Rows
import Derived.Laws.ResultCell
namespace Go.Proofs.Ytfcacplecapgfaa
open Go.RowKit
set_option linter.unusedVariables false
set_option linter.unusedSimpArgs false

theorem bcell {W w1 : World} (hb : Below W.heap.size W w1) : (∀ b o, b < W.heap.size → w1.cell? ⟨b, o, none⟩ = W.cell? ⟨b, o, none⟩) ∧ (∀ b o, b < W.heap.size → w1.frozen? ⟨b, o, none⟩ = W.frozen? ⟨b, o, none⟩) :=
  ⟨fun b o h => hb.cell (p := ⟨b, o, none⟩) h, fun b o h => hb.frozen (p := ⟨b, o, none⟩) h⟩
/-- Two blocks more. -/
theorem below2 (w : World) (o1 o2 : Obj) : Below w.heap.size w ((w.alloc o1).alloc o2) := ((Below.refl _ _).alloc (Nat.le_refl _) _).alloc (by simp) _
theorem below1 (w : World) (o1 : Obj) : Below w.heap.size w (w.alloc o1) := (Below.refl _ _).alloc (Nat.le_refl _) _

/-- A block's cells are written from i on. -/
def putAll (w : World) (g : Nat) : Nat → List Value → World
  | _, [] => w
  | i, v :: vs => putAll (w.setCell ⟨g, i, none⟩ v) g (i + 1) vs
theorem putAll_heap {g : Nat} {t : TypeId} : ∀ (vs : List Value) (w : World) (cs : Array Value) (i : Nat), w.heap[g]? = some (.cells cs t (0, 0)) → i + vs.length = cs.size →
    (putAll w g i vs).heap[g]? = some (.cells (cs.toList.take i ++ vs).toArray t (0, 0))
  | [], w, cs, i, h, hl => by
    simp at hl
    have : cs.toList.take i = cs.toList := List.take_of_length_le (by simp; omega)
    simp only [putAll, List.append_nil, this, h, Array.toArray_toList]
  | v :: vs, w, cs, i, h, hl => by
    simp at hl
    have := putAll_heap vs (w.setCell ⟨g, i, none⟩ v) (cs.setIfInBounds i v) (i + 1) (heap_setCell_same w g i cs t v h) (by simp; omega)
    rw [putAll, this]
    congr 3
    simp only [Array.toList_setIfInBounds]
    rw [List.take_succ_eq_append_getElem (by simp; omega)]
    simp [List.take_set_of_le]
theorem putAll_full {g : Nat} {t : TypeId} {vs : List Value} {w : World} {cs : Array Value} (h : w.heap[g]? = some (.cells cs t (0, 0))) (hl : vs.length = cs.size) :
    (putAll w g 0 vs).heap[g]? = some (.cells vs.toArray t (0, 0)) := by
  have := putAll_heap vs w cs 0 h (by omega)
  simpa using this
theorem putAll_size (g : Nat) : ∀ (vs : List Value) (w : World) (i : Nat), (putAll w g i vs).heap.size = w.heap.size
  | [], w, i => rfl
  | v :: vs, w, i => by rw [putAll, putAll_size g vs]; simp [World.setCell]
theorem putAll_below {B : Nat} {a : World} {g : Nat} (hg : B ≤ g) : ∀ (vs : List Value) (w : World) (i : Nat), Below B a w → Below B a (putAll w g i vs)
  | [], w, i, h => h
  | v :: vs, w, i, h => putAll_below hg vs _ _ (h.setCell hg v)
theorem putAll_owns {B e sz n g : Nat} {v : Value} {xs : List Value} (hg : g < B) : ∀ (vs : List Value) (w : World) (i : Nat), w.ownsRow B e sz v n xs → (putAll w g i vs).ownsRow B e sz v n xs
  | [], w, i, h => h
  | u :: vs, w, i, h => putAll_owns hg vs _ _ (ownsRow_setCell_below h (by exact hg) u)
theorem results_row2 {P : Program} {fn : Func} {p u : Tmp} {ty : TypeId} (h : fn.results = #[.cell p ty, .tmp u]) (tmps : Array Value) (w : World) (g : Nat) (t : TypeId) (cs : Array Value) (fr : Nat × Nat) (d : TypeDesc)
    (hp : tmps.getD p undef = .pointer (some ⟨g, 0, none⟩)) (hg : w.heap[g]? = some (.cells cs t fr))
    (hu : P.underlying ty = some d) (hd : (match d with | .struct _ | .array _ _ => true | _ => false) = true) (hi : (P.info? ty).map (·.size) = some cs.size) :
    (results fn tmps).run P w = .ok (.tuple #[.agg cs, tmps.getD u undef]) w := by
  rw [results_cell_tmp h]
  simp [hp, asAddr, Result.andThen, run_loadVar_row w g t ty cs fr d hg hu hd hi]

theorem at_new (w : World) (cs : Array Value) (e : TypeId) (fr : Nat × Nat) : At (w.alloc (.cells cs e fr)) (some ⟨w.heap.size, 0, none⟩) cs.toList := by
  intro i x hx
  refine ⟨_, _, rfl, ?_⟩
  rw [Nat.zero_add, cell_of_row _ _ _ cs e fr (heap_alloc_new w _)]
  simpa using hx

def ints (l : List Int) : List Value := l.map (Value.int .i64)
@[simp] theorem ints_nil : ints [] = [] := rfl
@[simp] theorem ints_append (l m : List Int) : ints (l ++ m) = ints l ++ ints m := List.map_append
@[simp] theorem length_ints (l : List Int) : (ints l).length = l.length := List.length_map ..
theorem ints_getElem? (l : List Int) (k : Nat) : (ints l)[k]? = (l[k]?).map (Value.int .i64) := List.getElem?_map ..
theorem ints_one (l : List Int) : ∀ u ∈ ints l, u.oneCell' = true := by
  intro u hu
  obtain ⟨x, _, rfl⟩ := List.mem_map.1 hu
  rfl
theorem At.int {w : World} {A : Option Addr} {l : List Int} (h : At w A (ints l)) {k : Nat} (hk : k < l.length) :
    ∃ b off, A = some ⟨b, off, none⟩ ∧ w.cell? ⟨b, off + k, none⟩ = some (.int .i64 l[k]) :=
  h k _ (by rw [ints_getElem?, List.getElem?_eq_getElem hk]; rfl)

theorem i64info : (Try.prog.info? 3).map (fun i => (i.zero, i.size, i.bytes)) = some (some (.int .i64 0), 1, 8) := by kernel_rfl

/-- append(own, ints...) -/
theorem wp_app_ints {w : World} {o : Oper} {a : Act} {K : Act → World → Prop} {Q : Exit → Act → World → Prop}
    (s x : Operand) (hop : o.op = Op.call { callee := Callee.builtin Builtin.append, args := #[s, x], argTypes := #[25, 25] })
    (base : Nat) {v : Value} {n : Nat} {xs : List Int} (hs : a.eval s = v) (hown : w.ownsRow base 3 1 v n (ints xs))
    {A : Option Addr} {m c : Nat} (hx : a.eval x = .slice A m c) {news : List Int} (hl : news.length = m) (hA : At w A (ints news))
    (hnil : A = none → c = 0) (hbytes : (n + m) * 8 ≤ 140737488355328) (hbase : base ≤ w.heap.size)
    (hK : ∀ A' c' w', w'.ownsRow base 3 1 (.slice A' (n + m) c') (n + m) (ints (xs ++ news)) → Below base w w' → w.grownBy w' v.ownBlock ∧ ((Value.slice A' (n + m) c').ownBlock = v.ownBlock ∨ (Value.slice A' (n + m) c').ownBlock = some w.heap.size) → n + m ≤ c' →
      K (a.put o.dst (.slice A' (n + m) c')) w') :
    o.wp Try.prog a w K Q := by
  obtain ⟨i, hi, hz0, hz1, hz2⟩ := info_parts i64info
  refine wp_app w s x 25 hop base 3 i (.int .i64 0) 1 8 Try.underlying25 hi hz0 hz1 hz2 rfl (by decide) v n (ints xs) hs hown A m c hx (ints news) (by simpa using hl) hA (ints_one _) hnil
    (by unfold maxLen; omega) hbytes hbase ?_
  intro A' c' w' h1 h2 h3 h4
  rw [← ints_append] at h1
  exact hK A' c' w' h1 h2 h3 h4
theorem app_ints {w : World} {ops : Array Oper} {rest : List Oper} {o : Oper} {a : Act} {Q : Exit → Act → World → Prop}
    (hg : o.guard = none) (s x : Operand) (hop : o.op = Op.call { callee := Callee.builtin Builtin.append, args := #[s, x], argTypes := #[25, 25] })
    (base : Nat) {v : Value} {n : Nat} {xs : List Int} (hs : a.eval s = v) (hown : w.ownsRow base 3 1 v n (ints xs))
    {A : Option Addr} {m c : Nat} (hx : a.eval x = .slice A m c) {news : List Int} (hl : news.length = m) (hA : At w A (ints news))
    (hnil : A = none → c = 0) (hbytes : (n + m) * 8 ≤ 140737488355328) (hbase : base ≤ w.heap.size)
    (hK : ∀ A' c' w', w'.ownsRow base 3 1 (.slice A' (n + m) c') (n + m) (ints (xs ++ news)) → Below base w w' → w.grownBy w' v.ownBlock ∧ ((Value.slice A' (n + m) c').ownBlock = v.ownBlock ∨ (Value.slice A' (n + m) c').ownBlock = some w.heap.size) → n + m ≤ c' →
      wpList Try.prog ops Q rest (a.put o.dst (.slice A' (n + m) c')) w') :
    wpList Try.prog ops Q (o :: rest) a w :=
  wpList_plain hg fun _ hK' => wp_app_ints s x hop base hs hown hx hl hA hnil hbytes hbase fun A' c' w' h1 h2 h3 h4 => hK' _ _ (hK A' c' w' h1 h2 h3 h4)

/-- A call answers numbers of its own. -/
def RetI (w : World) (n : Nat) (l : List Int) (e : Ending) (w' : World) : Prop :=
  ∃ A c, e = .returned (.slice A n c) ∧ w'.ownsRow w.heap.size 3 1 (.slice A n c) n (ints l) ∧ Below w.heap.size w w'

/-- A slice of whole numbers that reads as l. -/
def IRow (w : World) (v : Value) (l : List Int) : Prop := ∃ A c, v = .slice A l.length c ∧ At w A (ints l) ∧ l.length ≤ c ∧ (A = none → c = 0) ∧ l.length * 8 ≤ 140737488351232
theorem IRow.below {w w' : World} {v : Value} {l : List Int} (h : IRow w v l) (hb : Below w.heap.size w w') : IRow w' v l := by
  obtain ⟨A, c, rfl, hA, r⟩ := h
  exact ⟨A, c, rfl, hA.below hb, r⟩
theorem own_irow {w : World} {B e n c : Nat} {A : Option Addr} {l : List Int} (h : w.ownsRow B e 1 (.slice A n c) n (ints l)) (hl : l.length * 8 ≤ 140737488351232) : IRow w (.slice A n c) l := by
  have h1 := h.1
  simp only [length_ints, Nat.mul_one] at h1
  subst h1
  exact ⟨A, c, rfl, own_at h, own_le h, own_nil h, hl⟩

end Go.Proofs.Ytfcacplecapgfaa
