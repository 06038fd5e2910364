/- Words that all proofs of this seat share: slices that read as lists, byte values, and steps of the walk over them. No program in sight. -/
import Derived.WalkKit
import Derived.WalkSpells
import Derived.WalkLawsBesides
import Derived.KernelRfl
import Derived.Lib.Hide
import Derived.Deep.LoopGhost
import Derived.Deep.QuietTactic
import Derived.BigQuiet
import Derived.Maps.AppendAt
namespace Go.Proofs.Ytfcacplecapgfaa
open Go.RowKit
set_option linter.unusedVariables false
set_option linter.unusedSimpArgs false

/-- From address A on the cells of w hold vs. -/
def At (w : World) (A : Option Addr) (vs : List Value) : Prop :=
  ∀ i x, vs[i]? = some x → ∃ b off, A = some ⟨b, off, none⟩ ∧ w.cell? ⟨b, off + i, none⟩ = some x

theorem At.nil (w : World) (A : Option Addr) : At w A [] := by intro i x h; simp at h

theorem block_lt {w : World} {b off : Nat} {x : Value} (h : w.cell? ⟨b, off, none⟩ = some x) : b < w.heap.size :=
  World.block_lt_of_cell? w _ h

theorem At.below {w w' : World} {A : Option Addr} {vs : List Value} (h : At w A vs) (hb : Below w.heap.size w w') : At w' A vs := by
  intro i x hx
  obtain ⟨b, off, rfl, hc⟩ := h i x hx
  exact ⟨b, off, rfl, (hb.cell (p := ⟨b, off + i, none⟩) (block_lt hc)).trans hc⟩

/-- All but one block stays. -/
theorem At.other {w w' : World} {A : Option Addr} {vs : List Value} (h : At w A vs) (g : Nat) (hk : ∀ k, k < w.heap.size → k ≠ g → w'.heap[k]? = w.heap[k]?)
    (hg : ∀ b off, A = some ⟨b, off, none⟩ → b ≠ g) : At w' A vs := by
  intro i x hx
  obtain ⟨b, off, rfl, hc⟩ := h i x hx
  exact ⟨b, off, rfl, (World.cell?_of_block (hk b (block_lt hc) (hg b off rfl))).trans hc⟩

theorem At.take {w : World} {A : Option Addr} {vs : List Value} (h : At w A vs) (n : Nat) : At w A (vs.take n) := by
  intro i x hx
  rw [List.getElem?_take] at hx
  split at hx
  · exact h i x hx
  · simp at hx

/-- Where a slice begins that is cut at l, m cells being the capacity. -/
def cutA (A : Option Addr) (l m : Nat) : Option Addr := if m = l then A else A.map (·.add l)

theorem At.drop {w : World} {A : Option Addr} {vs : List Value} (h : At w A vs) (l m : Nat) (hm : vs.length ≤ m) : At w (cutA A l m) (vs.drop l) := by
  intro i x hx
  rw [List.getElem?_drop] at hx
  obtain ⟨b, off, rfl, hc⟩ := h _ x hx
  have hlt : l + i < vs.length := by
    rcases Nat.lt_or_ge (l + i) vs.length with h | h
    · exact h
    · rw [List.getElem?_eq_none h] at hx; simp at hx
  refine ⟨b, off + l, ?_, ?_⟩
  · unfold cutA; rw [if_neg (by omega)]; simp [Addr.add]
  · rw [Nat.add_assoc]; exact hc

theorem At.append {w : World} {A : Option Addr} {xs ys : List Value} (h : At w A (xs ++ ys)) : At w A xs := by
  have := h.take xs.length
  rwa [List.take_left] at this

abbrev B8 := BitVec 8

/-- A byte as a value; a text of bytes as cells. -/
def bv (x : BitVec 8) : Value := .int .u8 (x.toNat : Int)
def bys (l : List (BitVec 8)) : List Value := l.map bv

@[simp] theorem bys_nil : bys [] = [] := rfl
@[simp] theorem bys_cons (x : BitVec 8) (l : List (BitVec 8)) : bys (x :: l) = bv x :: bys l := rfl
@[simp] theorem bys_append (l m : List (BitVec 8)) : bys (l ++ m) = bys l ++ bys m := List.map_append
@[simp] theorem length_bys (l : List (BitVec 8)) : (bys l).length = l.length := List.length_map ..
theorem bys_take (l : List (BitVec 8)) (n : Nat) : (bys l).take n = bys (l.take n) := (List.map_take ..).symm
theorem bys_drop (l : List (BitVec 8)) (n : Nat) : (bys l).drop n = bys (l.drop n) := (List.map_drop ..).symm
theorem bys_getElem? (l : List (BitVec 8)) (k : Nat) : (bys l)[k]? = (l[k]?).map bv := List.getElem?_map ..
theorem bys_set (l : List (BitVec 8)) (k : Nat) (x : BitVec 8) : (bys l).set k (bv x) = bys (l.set k x) := (List.map_set ..).symm
theorem bys_one (l : List (BitVec 8)) : ∀ u ∈ bys l, u.oneCell' = true := by
  intro u hu
  obtain ⟨x, _, rfl⟩ := List.mem_map.1 hu
  rfl
theorem bys_inj {l m : List (BitVec 8)} (h : bys l = bys m) : l = m := by
  unfold bys at h
  refine List.map_inj_right ?_ |>.1 h
  intro a b hab
  have : (a.toNat : Int) = b.toNat := by injection hab
  exact BitVec.eq_of_toNat_eq (by omega)

theorem At.byte {w : World} {A : Option Addr} {l : List (BitVec 8)} (h : At w A (bys l)) {k : Nat} (hk : k < l.length) :
    ∃ b off, A = some ⟨b, off, none⟩ ∧ w.cell? ⟨b, off + k, none⟩ = some (.int .u8 (l[k].toNat : Int)) :=
  h k _ (by rw [bys_getElem?, List.getElem?_eq_getElem hk]; rfl)

/-- A row that the call owns reads as what it holds. -/
theorem own_at {w : World} {B e n c : Nat} {A : Option Addr} {vs : List Value} (h : w.ownsRow B e 1 (.slice A n c) n vs) : At w A vs := by
  intro i x hx
  obtain ⟨h1, h2⟩ := h
  rcases h2 with ⟨hv, hn⟩ | ⟨g, cap, cur, hv, hg, hh, hnc, hcm, hs, ht⟩
  · subst hn; simp at h1; subst h1; simp at hx
  · injection hv with hA hn hc
    subst hA
    refine ⟨g, 0, rfl, ?_⟩
    rw [← ht] at hx
    rw [List.getElem?_take] at hx
    split at hx
    · simp only [World.cell?, hh, Nat.zero_add]
      simpa using hx
    · simp at hx

theorem own_form {w : World} {B e sz n : Nat} {v : Value} {vs : List Value} (h : w.ownsRow B e sz v n vs) : ∃ A c, v = .slice A n c ∧ n ≤ c := by
  rcases h.2 with ⟨hv, hn⟩ | ⟨g, cap, cur, hv, hg, hh, hnc, hcm, hs, ht⟩
  · subst hn; exact ⟨none, 0, hv, Nat.le_refl _⟩
  · exact ⟨_, cap, hv, hnc⟩

theorem own_below {w w' : World} {B e sz n : Nat} {v : Value} {vs : List Value} (h : w.ownsRow B e sz v n vs) (hb : Below w.heap.size w w') : w'.ownsRow B e sz v n vs := by
  refine h.kept (row := none) ⟨hb.os, hb.tape, hb.output, hb.size, fun k hk _ => hb.block k hk⟩ ?_
  cases hv : v.ownBlock with
  | none => exact .inl rfl
  | some k => exact .inr (by simp)

theorem own_lower {w : World} {B B' e sz n : Nat} {v : Value} {vs : List Value} (h : w.ownsRow B e sz v n vs) (hB : B' ≤ B) : w.ownsRow B' e sz v n vs := by
  refine ⟨h.1, ?_⟩
  rcases h.2 with h | ⟨g, cap, cur, hv, hg, r⟩
  · exact .inl h
  · exact .inr ⟨g, cap, cur, hv, Nat.le_trans hB hg, r⟩

theorem below_grown {B : Nat} {a w w' : World} {v : Value} {e sz n : Nat} {vs : List Value} (h : Below B a w) (hg : w.grownBy w' v.ownBlock) (ho : w.ownsRow B e sz v n vs) (hB : B ≤ w.heap.size) : Below B a w' :=
  h.grown hg hB fun k hk => (ho.lt k hk).1


theorem At.add {w : World} {b off : Nat} {vs : List Value} (h : At w (some ⟨b, off, none⟩) vs) : ∀ j u, vs[j]? = some u → w.cell? ((⟨b, off, none⟩ : Addr).add j) = some u := by
  intro j u hu
  obtain ⟨b', off', he, hc⟩ := h j u hu
  simp only [Option.some.injEq, Addr.mk.injEq, and_true] at he
  obtain ⟨rfl, rfl⟩ := he
  unfold Addr.add
  split
  · rename_i h0; subst h0; simpa using hc
  · exact hc

theorem At.empty_of_none {w : World} {vs : List Value} (h : At w none vs) : vs = [] := by
  cases vs with
  | nil => rfl
  | cons x xs => obtain ⟨b, off, he, _⟩ := h 0 x rfl; cases he

/-- append(own, xs...): xs lies wherever it lies. -/
theorem run_app {P : Program} (w : World) (base : Nat) (t ty e : TypeId) (i : TypeInfo) (z : Value) (size bytes : Nat) (ht : P.underlying t = some (.slice e)) (hi : P.info? e = some i) (hz : i.zero = some z)
    (hsize : i.size = size) (hby : i.bytes = bytes) (hzs : z.cells.size = size) (hsz : 0 < size)
    (v : Value) (n : Nat) (xs : List Value) (hown : w.ownsRow base e size v n xs)
    (A : Option Addr) (m c : Nat) (news : List Value) (hl : news.length = m * size) (hA : At w A news) (h1 : ∀ u ∈ news, u.oneCell' = true)
    (hnil : A = none → c = 0) (h63 : n + m ≤ maxLen) (hbytes : (n + m) * bytes ≤ 140737488355328) (hbase : base ≤ w.heap.size) :
    ∃ A' c' w', (Builtin.append_ #[t, t] ty #[v, .slice A m c]).run P w = .ok (.slice A' (n + m) c') w' ∧ w'.ownsRow base e size (.slice A' (n + m) c') (n + m) (xs ++ news) ∧ w.grownBy w' v.ownBlock ∧ n + m ≤ c' ∧
      ((Value.slice A' (n + m) c').ownBlock = v.ownBlock ∨ (Value.slice A' (n + m) c').ownBlock = some w.heap.size) := by
  cases A with
  | none =>
    have hn := hA.empty_of_none
    subst hn
    have hm : m = 0 := by
      rcases Nat.eq_zero_or_pos m with h | h
      · exact h
      · have := Nat.mul_pos h hsz; simp at hl; omega
    subst hm
    have hc := hnil rfl
    subst hc
    obtain ⟨A', c', rfl, hc'⟩ := own_form hown
    refine ⟨A', c', w, run_append_owned_none w base t ty e i size ht hi _ n xs hown, by simpa using hown, World.grownBy.refl _ _, hc', .inl rfl⟩
  | some a =>
    by_cases hm : news = []
    · subst hm
      obtain ⟨v', w', hr, ho, hg, _, hlie⟩ := run_append_own_at (P := P) w base t ty e i z size bytes ht hi hz hsize hby hzs hsz v n xs hown a m c [] hl (by simp) h1 h63 hbytes hbase
      obtain ⟨A', c', rfl, hc'⟩ := own_form ho
      exact ⟨A', c', w', hr, ho, hg, hc', hlie⟩
    · obtain ⟨x, xs', rfl⟩ := List.exists_cons_of_ne_nil hm
      obtain ⟨b, off, he, _⟩ := hA 0 x rfl
      obtain rfl := Option.some.inj he
      obtain ⟨v', w', hr, ho, hg, _, hlie⟩ := run_append_own_at (P := P) w base t ty e i z size bytes ht hi hz hsize hby hzs hsz v n xs hown ⟨b, off, none⟩ m c (x :: xs') hl hA.add h1 h63 hbytes hbase
      obtain ⟨A', c', rfl, hc'⟩ := own_form ho
      exact ⟨A', c', w', hr, ho, hg, hc', hlie⟩

theorem wp_app {P : Program} (w : World) {o : Oper} {a : Act} {K : Act → World → Prop} {Q : Exit → Act → World → Prop}
    (s x : Operand) (t : TypeId) (hop : o.op = Op.call { callee := Callee.builtin Builtin.append, args := #[s, x], argTypes := #[t, t] })
    (base : Nat) (e : TypeId) (i : TypeInfo) (z : Value) (size bytes : Nat) (ht : P.underlying t = some (.slice e)) (hi : P.info? e = some i) (hz : i.zero = some z)
    (hsize : i.size = size) (hby : i.bytes = bytes) (hzs : z.cells.size = size) (hsz : 0 < size)
    (v : Value) (n : Nat) (xs : List Value) (hs : a.eval s = v) (hown : w.ownsRow base e size v n xs)
    (A : Option Addr) (m c : Nat) (hx : a.eval x = .slice A m c) (news : List Value) (hl : news.length = m * size) (hA : At w A news) (h1 : ∀ u ∈ news, u.oneCell' = true)
    (hnil : A = none → c = 0) (h63 : n + m ≤ maxLen) (hbytes : (n + m) * bytes ≤ 140737488355328) (hbase : base ≤ w.heap.size)
    (hK : ∀ A' c' w', w'.ownsRow base e size (.slice A' (n + m) c') (n + m) (xs ++ news) → Below base w w' → w.grownBy w' v.ownBlock ∧ ((Value.slice A' (n + m) c').ownBlock = v.ownBlock ∨ (Value.slice A' (n + m) c').ownBlock = some w.heap.size) → n + m ≤ c' →
      K (a.put o.dst (.slice A' (n + m) c')) w') :
    o.wp P a w K Q := by
  obtain ⟨A', c', w', hrun, r1, r2, r3, r4⟩ := run_app (P := P) w base t o.type e i z size bytes ht hi hz hsize hby hzs hsz v n xs hown A m c news hl hA h1 hnil h63 hbytes hbase
  unfold Oper.wp
  simp [execOp, hop, resolve, invoke, builtin, hs, hx, hrun, Result.andThen]
  exact hK A' c' w' r1 ((Below.refl base w).grown r2 hbase fun k hk => (hown.lt k hk).1) ⟨r2, r4⟩ r3

theorem own_empty {w : World} {B e g : Nat} {l : List B8} {n : Nat} (hn : n = 0) (hl : l = []) (hg : w.heap[g]? = some (.cells #[] e (0, 0))) (hB : B ≤ g) : w.ownsRow B e 1 (.slice (some ⟨g, 0, none⟩) n n) n (bys l) := by
  subst hl hn
  exact ⟨rfl, .inr ⟨g, 0, #[], rfl, hB, hg, Nat.le_refl _, by decide, rfl, rfl⟩⟩

/-- A cut of a slice of one-cell elements. -/
theorem run_cut {P : Program} (w : World) (t e : TypeId) (i : TypeInfo) (ht : P.underlying t = some (.slice e)) (hi : P.info? e = some i) (h1 : i.size = 1)
    (A : Option Addr) (n c : Nat) (lo hi' mx : Option Value) (l h m : Nat)
    (hl : lo = none ∧ l = 0 ∨ lo = some (.int .i64 l)) (hh : hi' = none ∧ h = n ∧ mx = none ∨ hi' = some (.int .i64 h)) (hm : mx = none ∧ m = c ∨ mx = some (.int .i64 m))
    (hlh : l ≤ h) (hhm : h ≤ m) (hmc : m ≤ c) :
    (Instr.sliceAt t (.slice A n c) lo hi' mx).run P w = .ok (.slice (cutA A l m) (h - l) (m - l)) w := by
  have hle : ∀ (x y : Nat) (code : BoundsCode), x ≤ y → (Instr.sliceBound (.int .i64 x) y code).run P w = .ok x w := by
    intro x y code hxy
    simp [Instr.sliceBound, asIntOf, hxy]
  have hmul : l * i.size = l := by rw [h1]; omega
  rcases hl with ⟨rfl, rfl⟩ | rfl <;> rcases hh with ⟨rfl, rfl, rfl⟩ | rfl <;> rcases hm with ⟨hm1, rfl⟩ | hm1 <;>
    first
    | (subst hm1; simp_all [Instr.sliceAt, Instr.slice, Instr.sliceBounds, run_underlying ht, hle, sizeOf, typeInfo, hi, cutA])
    | (simp_all [Instr.sliceAt, Instr.slice, Instr.sliceBounds, run_underlying ht, hle, sizeOf, typeInfo, hi, cutA])

theorem wpList_cut {P : Program} (w : World) {ops : Array Oper} {rest : List Oper} {o : Oper} {a : Act} {Q : Exit → Act → World → Prop}
    (hg : o.guard = none) (t e : TypeId) (x : Operand) (lo hi' mx : Option Operand) (hop : o.op = Op.slice t x lo hi' mx) (i : TypeInfo) (ht : P.underlying t = some (.slice e)) (hi : P.info? e = some i) (h1 : i.size = 1)
    (A : Option Addr) (n c : Nat) (hx : a.eval x = .slice A n c) (l h m : Nat)
    (hl : lo.map a.eval = none ∧ l = 0 ∨ lo.map a.eval = some (.int .i64 l)) (hh : hi'.map a.eval = none ∧ h = n ∧ mx.map a.eval = none ∨ hi'.map a.eval = some (.int .i64 h))
    (hm : mx.map a.eval = none ∧ m = c ∨ mx.map a.eval = some (.int .i64 m))
    (hlh : l ≤ h) (hhm : h ≤ m) (hmc : m ≤ c)
    (hK : ∀ A', A' = cutA A l m → wpList P ops Q rest (a.put o.dst (.slice A' (h - l) (m - l))) w) :
    wpList P ops Q (o :: rest) a w := by
  refine wpList_plain hg fun K hK' => ?_
  have hrun := run_cut (P := P) w t e i ht hi h1 A n c (lo.map a.eval) (hi'.map a.eval) (mx.map a.eval) l h m hl hh hm hlh hhm hmc
  unfold Oper.wp
  simp [execOp, hop, hx, hrun, Result.andThen]
  exact hK' _ _ (hK _ rfl)


theorem own_nil {w : World} {B e sz n c : Nat} {A : Option Addr} {vs : List Value} (h : w.ownsRow B e sz (.slice A n c) n vs) : A = none → c = 0 := by
  intro hA
  subst hA
  rcases h.2 with ⟨hv, hn⟩ | ⟨g, cap, cur, hv, r⟩
  · injection hv
  · cases hv
theorem own_le {w : World} {B e sz n c : Nat} {A : Option Addr} {vs : List Value} (h : w.ownsRow B e sz (.slice A n c) n vs) : n ≤ c := by
  rcases h.2 with ⟨hv, hn⟩ | ⟨g, cap, cur, hv, hg, hh, hnc, r⟩
  · injection hv; omega
  · injection hv with h1 h2 h3; omega


/-- The text of bytes as a string. -/
def str (l : List B8) : ByteArray := ⟨(l.map fun x => UInt8.ofBitVec x).toArray⟩
theorem str_inj {l m : List B8} (h : str l = str m) : l = m := by
  unfold str at h
  injection h with h
  have := congrArg Array.toList h
  simp only at this
  exact (List.map_inj_right (fun a b hab => by injection hab)).1 this
theorem run_loadAt {P : Program} (w : World) {A : Addr} {vs : List Value} (hA : At w (some A) vs) : (loadCells A vs.length).run P w = .ok vs.toArray w := by
  cases vs with
  | nil => simp [loadCells, loadCellsFrom]
  | cons x xs =>
    obtain ⟨b, off, he, _⟩ := hA 0 x rfl
    obtain rfl := Option.some.inj he
    exact run_loadCells_list (P := P) w ⟨b, off, none⟩ (x :: xs) hA.add

theorem conv_str {P : Program} (w : World) (src dst e : TypeId) (hs : P.underlying src = some (.slice e)) (he : P.underlying e = some (.int .u8)) (hd : P.underlying dst = some .string)
    {A : Option Addr} {n c : Nat} {l : List B8} (hA : At w A (bys l)) (hn : n = l.length) :
    (convert src dst (.slice A n c)).run P w = .ok (.string (str l)) w := by
  subst hn
  rw [run_convert_bytes_string w src dst e A _ c hs he hd]
  cases A with
  | none =>
    have hl : l = [] := by
      have := hA.empty_of_none
      cases l with
      | nil => rfl
      | cons x xs => cases this
    subst hl
    simp [Conv.bytesToString, str]
    rfl
  | some ad =>
    have h0 := run_loadAt (P := P) w hA
    have hb : bys l = (l.map fun x => (x.toNat : Int)).map (Value.int .u8) := by simp [bys, bv]
    rw [length_bys] at h0
    rw [hb] at h0
    rw [run_bytesToString w ad l.length c _ h0, foldl_push_bytes]
    simp only [str, ByteArray.empty, ByteArray.emptyWithCapacity]
    congr 3
    rw [List.map_map]
    show (#[] ++ (List.map _ l).toArray : Array UInt8) = (List.map _ l).toArray
    rw [Array.empty_append]
    refine congrArg List.toArray (List.map_congr_left ?_)
    intro x _
    exact UInt8.ofNat_toNat (x := UInt8.ofBitVec x)


theorem str_toList (l : List B8) : (str l).toList = l.map fun x => UInt8.ofBitVec x := by
  rw [ByteArray.toList_eq]; rfl
theorem str_beq (l m : List B8) : ((str l).toList == (str m).toList) = decide (l = m) := by
  rw [str_toList, str_toList]
  by_cases h : l = m
  · subst h; simp
  · rw [decide_eq_false h, beq_eq_false_iff_ne]
    exact fun he => h ((List.map_inj_right (fun a b hab => by injection hab)).1 he)
theorem str_bne (l m : List B8) : ((str l).toList != (str m).toList) = decide (l ≠ m) := by
  rw [bne, str_beq]
  by_cases h : l = m <;> simp [h]

theorem ret_bool {a b : Bool} (h : a = b) : Ending.returned (.bool a) = .returned (.bool b) := by rw [h]
theorem ret_int {k : IntKind} {a b : Int} (h : a = b) : Ending.returned (.int k a) = .returned (.int k b) := by rw [h]
theorem int_eq {k : IntKind} {a b : Int} (h : a = b) : Value.int k a = .int k b := by rw [h]


/-- A byte of an own row is stored. -/
theorem own_store {w : World} {B e g n c : Nat} {l : List B8} (h : w.ownsRow B e 1 (.slice (some ⟨g, 0, none⟩) n c) n (bys l)) (j : Nat) (x : B8) :
    (w.setCell ⟨g, j, none⟩ (bv x)).ownsRow B e 1 (.slice (some ⟨g, 0, none⟩) n c) n (bys (l.set j x)) := by
  rw [← bys_set]; exact (h.stored j (bv x)).1
theorem own_ge {w : World} {B e sz g n c : Nat} {vs : List Value} (h : w.ownsRow B e sz (.slice (some ⟨g, 0, none⟩) n c) n vs) : B ≤ g ∧ g < w.heap.size := h.lt g rfl
theorem own_cell {w : World} {B e g n c : Nat} {l : List B8} (h : w.ownsRow B e 1 (.slice (some ⟨g, 0, none⟩) n c) n (bys l)) {j : Nat} (hj : j < l.length) :
    w.cell? ⟨g, j, none⟩ = some (.int .u8 (l[j].toNat : Int)) := by
  have hl := h.1
  simp only [length_bys, Nat.mul_one] at hl
  rw [h.cellAt j (by omega), bys_getElem?, List.getElem?_eq_getElem hj]
  rfl

theorem own_some {w : World} {B e g n c : Nat} {vs : List Value} (h : w.ownsRow B e 1 (.slice (some ⟨g, 0, none⟩) n c) n vs) {j : Nat} (hj : j < n) : ∃ u, w.cell? ⟨g, j, none⟩ = some u := by
  have hl := h.1
  rw [h.cellAt j (by omega)]
  exact ⟨vs[j]'(by omega), List.getElem?_eq_getElem _⟩

theorem own_lit {w : World} {e : TypeId} {cs : Array Value} {n : Nat} {l : List B8} (h : cs.toList = bys l) (hn : n = l.length) (hm : n ≤ maxLen) :
    (w.alloc (.cells cs e)).ownsRow w.heap.size e 1 (.slice (some ⟨w.heap.size, 0, none⟩) n n) n (bys l) := by
  have h' := World.ownsRow_lit (base := w.heap.size) (e := e) (size := 1) w cs n (Nat.le_refl _) hm (by
    have := congrArg List.length h
    simp at this; omega)
  rwa [h] at h'

theorem belowN {w : World} {B : Nat} (n : Nat) : Below B w (w.drewN n) := by
  induction n with
  | zero => exact Below.refl _ _
  | succ n ih => exact ih.drew


/-- A slice of bytes that reads as l. -/
def Row (w : World) (v : Value) (l : List B8) : Prop := ∃ A c, v = .slice A l.length c ∧ At w A (bys l) ∧ l.length ≤ c ∧ (A = none → c = 0) ∧ l.length ≤ 140737488351232
/-- Slices of bytes that read as LL. -/
def Texts (w : World) (vs : List Value) (LL : List (List B8)) : Prop := vs.length = LL.length ∧ ∀ (i : Nat) v l, vs[i]? = some v → LL[i]? = some l → Row w v l

theorem Row.below {w w' : World} {v : Value} {l : List B8} (h : Row w v l) (hb : Below w.heap.size w w') : Row w' v l := by
  obtain ⟨A, c, rfl, hA, r⟩ := h
  exact ⟨A, c, rfl, hA.below hb, r⟩
theorem Texts.below {w w' : World} {vs : List Value} {LL : List (List B8)} (h : Texts w vs LL) (hb : Below w.heap.size w w') : Texts w' vs LL :=
  ⟨h.1, fun i v l h1 h2 => (h.2 i v l h1 h2).below hb⟩
theorem Texts.nil (w : World) : Texts w [] [] := ⟨rfl, fun i v l h => by simp at h⟩
theorem Texts.snoc {w : World} {vs : List Value} {LL : List (List B8)} {v : Value} {l : List B8} (h : Texts w vs LL) (hr : Row w v l) : Texts w (vs ++ [v]) (LL ++ [l]) := by
  refine ⟨by simp [h.1], ?_⟩
  intro i v' l' h1 h2
  by_cases hi : i < vs.length
  · rw [List.getElem?_append_left hi] at h1
    rw [List.getElem?_append_left (by rw [← h.1]; exact hi)] at h2
    exact h.2 i v' l' h1 h2
  · rw [List.getElem?_append_right (by omega)] at h1
    rw [List.getElem?_append_right (by rw [← h.1]; omega), ← h.1] at h2
    have h0 : i - vs.length = 0 := by
      rcases Nat.eq_zero_or_pos (i - vs.length) with h | h
      · exact h
      · rw [List.getElem?_eq_none (by simp; omega)] at h1; cases h1
    rw [h0] at h1 h2
    simp at h1 h2
    subst h1 h2
    exact hr
theorem Texts.get {w : World} {vs : List Value} {LL : List (List B8)} (h : Texts w vs LL) {k : Nat} (hk : k < vs.length) : ∃ l, LL[k]? = some l ∧ Row w vs[k] l := by
  have hk2 : k < LL.length := by rw [← h.1]; exact hk
  exact ⟨LL[k], List.getElem?_eq_getElem hk2, h.2 k _ _ (List.getElem?_eq_getElem hk) (List.getElem?_eq_getElem hk2)⟩

/-- The block of a slice is none of those that a fact needs. -/
def Far (v : Value) (w : World) (A : Option Addr) (vs : List Value) : Prop := vs = [] ∨ ∀ b off, A = some ⟨b, off, none⟩ → v.ownBlock ≠ some b
theorem At.grown {w w' : World} {A : Option Addr} {vs : List Value} {v : Value} (h : At w A vs) (hg : w.grownBy w' v.ownBlock) (hf : Far v w A vs) : At w' A vs := by
  intro i x hx
  obtain ⟨b, off, rfl, hc⟩ := h i x hx
  rcases hf with h0 | hf
  · subst h0; simp at hx
  · refine ⟨b, off, rfl, ?_⟩
    exact (World.cell?_of_block (hg.block b (block_lt hc) (fun he => hf b off rfl he.symm))).trans hc


/-- v's own block holds none of the slices us. -/
def FarT (v : Value) (us : List Value) : Prop := ∀ u, u ∈ us → ∀ b, u.ownBlock = some b → v.ownBlock ≠ some b
theorem FarT.nil (v : Value) : FarT v [] := fun u h => by cases h
theorem FarT.snoc {v u : Value} {us : List Value} (h : FarT v us) (hu : ∀ b, u.ownBlock = some b → v.ownBlock ≠ some b) : FarT v (us ++ [u]) := by
  intro x hx
  rcases List.mem_append.1 hx with hx | hx
  · exact h x hx
  · rw [List.mem_singleton] at hx; subst hx; exact hu
theorem Row.lt {w : World} {v : Value} {l : List B8} (h : Row w v l) (hl : l ≠ []) : ∀ b, v.ownBlock = some b → b < w.heap.size := by
  obtain ⟨A, c, rfl, hA, _⟩ := h
  intro b hb
  cases l with
  | nil => exact absurd rfl hl
  | cons x l =>
    obtain ⟨b', off, rfl, hc⟩ := hA 0 (bv x) rfl
    simp [Value.ownBlock] at hb
    subst hb
    exact block_lt hc
theorem Row.grown {w w' : World} {v u : Value} {l : List B8} (h : Row w u l) (hg : w.grownBy w' v.ownBlock) (hf : ∀ b, u.ownBlock = some b → v.ownBlock ≠ some b) : Row w' u l := by
  obtain ⟨A, c, rfl, hA, r⟩ := h
  refine ⟨A, c, rfl, hA.grown hg (.inr ?_), r⟩
  intro b off he
  subst he
  exact hf b rfl
theorem Texts.grown {w w' : World} {v : Value} {vs : List Value} {LL : List (List B8)} (h : Texts w vs LL) (hg : w.grownBy w' v.ownBlock) (hf : FarT v vs) : Texts w' vs LL :=
  ⟨h.1, fun i u l h1 h2 => (h.2 i u l h1 h2).grown hg (hf u (List.mem_of_getElem? h1))⟩
theorem own_ne {w : World} {B B' e e' sz sz' n n' : Nat} {v v' : Value} {xs xs' : List Value} (h : w.ownsRow B e sz v n xs) (h' : w.ownsRow B' e' sz' v' n' xs') (hee : e ≠ e') : ∀ b, v'.ownBlock = some b → v.ownBlock ≠ some b := by
  intro b hb hc
  rcases h.2 with ⟨rfl, _⟩ | ⟨g, cap, cur, rfl, _, hg, _⟩
  · simp [Value.ownBlock] at hc
  · rcases h'.2 with ⟨rfl, _⟩ | ⟨g', cap', cur', rfl, _, hg', _⟩
    · simp [Value.ownBlock] at hb
    · simp [Value.ownBlock] at hb hc
      subst hb hc
      rw [hg] at hg'
      injection hg' with hg'
      injection hg' with _ h2 _
      exact hee h2
theorem own_grown {w w' : World} {B e sz n : Nat} {v u : Value} {xs : List Value} (h : w.ownsRow B e sz u n xs) (hg : w.grownBy w' v.ownBlock) (hf : ∀ b, u.ownBlock = some b → v.ownBlock ≠ some b) : w'.ownsRow B e sz u n xs := by
  refine h.kept hg ?_
  cases hu : u.ownBlock with
  | none => exact .inl rfl
  | some b => exact .inr (fun he => hf b hu he.symm)
/-- A slice that has been appended to stays far from what was there. -/
theorem FarT.lies {w : World} {v v' : Value} {us : List Value} (h : FarT v us) (hl : v'.ownBlock = v.ownBlock ∨ v'.ownBlock = some w.heap.size) (hu : ∀ u, u ∈ us → ∀ b, u.ownBlock = some b → b < w.heap.size) : FarT v' us := by
  intro u hm b hb hc
  rcases hl with hl | hl
  · rw [hl] at hc; exact h u hm b hb hc
  · rw [hl] at hc
    have := hu u hm b hb
    injection hc with hc
    omega

theorem Texts.lt {w : World} {vs : List Value} {LL : List (List B8)} (h : Texts w vs LL) (hl : ∀ l, l ∈ LL → l ≠ []) : ∀ u, u ∈ vs → ∀ b, u.ownBlock = some b → b < w.heap.size := by
  intro u hu
  obtain ⟨i, hi, he⟩ := List.getElem_of_mem hu
  obtain ⟨l, h1, h2⟩ := h.get hi
  rw [he] at h2
  exact h2.lt (hl l (List.mem_of_getElem? h1))
/-- Far from what lies above, and from what was there: behind an append. -/
theorem far_new {w : World} {B e sz n : Nat} {v v' u : Value} {xs : List Value} (ho : w.ownsRow B e sz v n xs) {w' : World} (hl : v'.ownBlock = v.ownBlock ∨ v'.ownBlock = some w'.heap.size)
    (hu : ∀ b, u.ownBlock = some b → w.heap.size ≤ b ∧ b < w'.heap.size) : ∀ b, u.ownBlock = some b → v'.ownBlock ≠ some b := by
  intro b hb hc
  obtain ⟨h1, h2⟩ := hu b hb
  rcases hl with hl | hl
  · rw [hl] at hc
    have := (ho.lt b hc).2
    omega
  · rw [hl] at hc
    injection hc with hc
    omega
theorem far_old {w : World} {B e sz n : Nat} {v u : Value} {xs : List Value} (ho : w.ownsRow B e sz v n xs) (hu : ∀ b, u.ownBlock = some b → w.heap.size ≤ b) : ∀ b, u.ownBlock = some b → v.ownBlock ≠ some b := by
  intro b hb hc
  have h1 := hu b hb
  have := (ho.lt b hc).2
  omega
theorem own_row {w : World} {B e n c : Nat} {A : Option Addr} {l : List B8} (h : w.ownsRow B e 1 (.slice A n c) n (bys l)) (hl : l.length ≤ 140737488351232) : Row w (.slice A n c) l := by
  have h1 := h.1
  simp only [length_bys, Nat.mul_one] at h1
  subst h1
  exact ⟨A, c, rfl, own_at h, own_le h, own_nil h, hl⟩

theorem own_block {w : World} {B e sz n c : Nat} {A : Option Addr} {vs : List Value} (h : w.ownsRow B e sz (.slice A n c) n vs) (hn : 0 < n) : ∃ g, A = some ⟨g, 0, none⟩ := by
  rcases h.2 with ⟨_, h0⟩ | ⟨g, cap, cur, hv, _⟩
  · omega
  · injection hv with hA _ _; exact ⟨g, hA⟩

end Go.Proofs.Ytfcacplecapgfaa
