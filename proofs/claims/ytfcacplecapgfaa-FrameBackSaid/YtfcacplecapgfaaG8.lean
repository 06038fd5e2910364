/- Messages that are read: plain reading; what is owned. -/
import Derived.Test.YtfcacplecapgfaaG7
import Derived.Laws.Tables
import Derived.Laws.CopyRow
namespace Go.Proofs.Ytfcacplecapgfaa
open Go.RowKit
set_option linter.unusedVariables false
set_option linter.unusedSimpArgs false

/-- Votes, one behind the other. -/
def votesR : Nat → List B8 → Option (List Vt × List B8)
  | 0, l => some ([], l)
  | k + 1, l => (votesR k l).bind fun p => (numsR 1152921504606846976 2 p.2).bind fun a => (readC a.2).map fun c => (p.1 ++ [((((a.1.getD 0 0 : Nat) : Int), ((a.1.getD 1 0 : Nat) : Int), c.1) : Vt)], c.2)
theorem votesR_none {l : List B8} : ∀ {t k : Nat}, t ≤ k → votesR t l = none → votesR k l = none
  | t, 0, h, hn => by have : t = 0 := by omega
                      subst this; cases hn
  | t, k + 1, h, hn => by
    by_cases he : t = k + 1
    · rw [← he]; exact hn
    · have := votesR_none (k := k) (by omega) hn
      unfold votesR
      rw [this]; rfl
/-- A message of what is read. -/
def mkM (ms : List Nat) (ok : Bool) (c : Cm) (cn : List Int) (vs : List Vt) (bs : List B8) : Mg :=
  ⟨⟨(ms.getD 0 0 : Nat), (ms.getD 1 0 : Nat), (ms.getD 2 0 : Nat), (ms.getD 3 0 : Nat), (ms.getD 4 0 : Nat), (ms.getD 5 0 : Nat), (ms.getD 6 0 : Nat), (ms.getD 7 0 : Nat), (ms.getD 8 0 : Nat), ok, c⟩, cn, vs, bs⟩
/-- The message at the beginning of bytes, and what stands behind. -/
def readM (l : List B8) : Option (Mg × List B8) :=
  (numsR 1152921504606846976 9 l).bind fun a => (takeR 1 a.2).bind fun t => if 1 < (t.1.getD 0 0#8).toNat then none else
    (readC t.2).bind fun c => (numR 1000 c.2).bind fun n => (votesR n.1 n.2).bind fun vs => (numR 2000 vs.2).bind fun k => (takeR k.1 k.2).bind fun b =>
      if mayM (mkM a.1 (t.1.getD 0 0#8 == 1#8) c.1.1 c.1.2 vs.1 b.1) = true then some (mkM a.1 (t.1.getD 0 0#8 == 1#8) c.1.1 c.1.2 vs.1 b.1, b.2) else none

/-- A vote of one's own. -/
def VtO (w : World) (B : Nat) (cs : List Value) (v : Vt) : Prop :=
  ∃ A d, cs = (#[.int .i64 v.1, .int .i64 v.2.1, .int .i64 v.2.2.1.id, .int .i64 v.2.2.1.kind, .string v.2.2.1.key, .int .i64 v.2.2.1.blob, .int .i64 v.2.2.1.other, .int .i64 v.2.2.1.index, .int .i64 v.2.2.1.node, .int .i64 v.2.2.1.size, .int .u32 v.2.2.1.sum, .int .i64 v.2.2.1.k, .int .i64 v.2.2.1.m, .slice A v.2.2.2.length d]).toList ∧ w.ownsRow B 3 1 (.slice A v.2.2.2.length d) v.2.2.2.length (ints v.2.2.2) ∧ v.2.2.2.length ≤ 255 ∧ SumOk v.2.2.1
def VtsO (w : World) (B : Nat) : List Value → List Vt → Prop
  | vs, [] => vs = []
  | vs, v :: V => ∃ cs rest, vs = cs ++ rest ∧ VtO w B cs v ∧ VtsO w B rest V
theorem VtsO.map {w w' : World} {B : Nat} (f : ∀ v n xs, w.ownsRow B 3 1 v n xs → w'.ownsRow B 3 1 v n xs) : ∀ (V : List Vt) (vs : List Value), VtsO w B vs V → VtsO w' B vs V
  | [], vs, h => h
  | v :: V, vs, h => by
    obtain ⟨cs, rest, rfl, ⟨A, d, h1, h2, h3⟩, h4⟩ := h
    exact ⟨cs, rest, rfl, ⟨A, d, h1, f _ _ _ h2, h3⟩, VtsO.map f V rest h4⟩
theorem VtsO.lower {w : World} {B B' : Nat} (hB : B' ≤ B) : ∀ (V : List Vt) (vs : List Value), VtsO w B vs V → VtsO w B' vs V
  | [], vs, h => h
  | v :: V, vs, h => by
    obtain ⟨cs, rest, rfl, ⟨A, d, h1, h2, h3⟩, h4⟩ := h
    exact ⟨cs, rest, rfl, ⟨A, d, h1, own_lower h2 hB, h3⟩, VtsO.lower hB V rest h4⟩
theorem VtsO.snoc {w : World} {B : Nat} {v : Vt} {cs : List Value} (hv : VtO w B cs v) : ∀ (V : List Vt) (vs : List Value), VtsO w B vs V → VtsO w B (vs ++ cs) (V ++ [v])
  | [], vs, h => by cases h; exact ⟨cs, [], by simp, hv, rfl⟩
  | y :: V, vs, h => by
    obtain ⟨c', rest, rfl, h1, h2⟩ := h
    exact ⟨c', rest ++ cs, by rw [List.append_assoc], h1, VtsO.snoc hv V rest h2⟩
theorem VtsO.vts {w : World} {B : Nat} : ∀ (V : List Vt) (vs : List Value), VtsO w B vs V → Vts w vs V
  | [], vs, h => h
  | v :: V, vs, h => by
    obtain ⟨cs, rest, rfl, ⟨A, d, h1, h2, h3, h5⟩, h4⟩ := h
    exact ⟨cs, rest, rfl, ⟨A, d, h1, own_at h2, own_nil h2, by omega, h5⟩, VtsO.vts V rest h4⟩
theorem own_atN {w : World} {B e sz n c : Nat} {A : Option Addr} {vs : List Value} (h : w.ownsRow B e sz (.slice A n c) n vs) : At w A vs := by
  intro i x hx
  obtain ⟨h1, h2⟩ := h
  rcases h2 with ⟨hv, hn⟩ | ⟨g, cap, cur, hv, hg, hh, hnc, hcm, hs, ht⟩
  · subst hn; simp at h1; subst h1; simp at hx
  · injection hv with hA hn hc
    subst hA
    refine ⟨g, 0, rfl, ?_⟩
    rw [← ht] at hx
    rw [List.getElem?_take] at hx
    split at hx
    · simp only [World.cell?, hh, Nat.zero_add]
      simpa using hx
    · simp at hx
theorem own_typed {w : World} {B e sz n : Nat} {v : Value} {vs : List Value} (h : w.ownsRow B e sz v n vs) {b : Nat} (hb : v.ownBlock = some b) : ∃ cs fr, w.heap[b]? = some (.cells cs e fr) := by
  rcases h.2 with ⟨rfl, _⟩ | ⟨g, cap, cur, rfl, _, hg, _⟩
  · simp [Value.ownBlock] at hb
  · simp [Value.ownBlock] at hb
    subst hb
    exact ⟨cur, _, hg⟩
/-- Rows of other types lie in other blocks. -/
theorem own_part {w : World} {B B' e e' sz sz' n n' : Nat} {v u : Value} {vs us : List Value} (h : w.ownsRow B e sz v n vs) (g : w.ownsRow B' e' sz' u n' us) (hne : e ≠ e') : v.ownBlock = none ∨ v.ownBlock ≠ u.ownBlock := by
  cases hb : v.ownBlock with
  | none => exact .inl rfl
  | some b =>
    refine .inr fun he => ?_
    obtain ⟨cs, fr, h1⟩ := own_typed h hb
    obtain ⟨ds, fr', h2⟩ := own_typed g he.symm
    rw [h1] at h2
    injection h2 with h2
    injection h2 with _ h2
    exact hne h2
/-- A message of one's own. -/
structure MgOwn (w : World) (B : Nat) (P : Option Addr) (e : Nat) (V : Option Addr) (ev : Nat) (X : Option Addr) (f : Nat) (m : Mg) : Prop where
  cn : w.ownsRow B 3 1 (.slice P m.cn.length e) m.cn.length (ints m.cn)
  clen : m.cn.length ≤ 255
  vts : ∃ us, w.ownsRow B 74 14 (.slice V m.vs.length ev) m.vs.length us ∧ VtsO w B us m.vs
  vlen : m.vs.length ≤ 1000
  bs : w.ownsRow B 5 1 (.slice X m.bs.length f) m.bs.length (bys m.bs)
  blen : m.bs.length ≤ 2000
  sum : SumOk m.h.cmd
theorem MgOwn.at {w : World} {B : Nat} {P : Option Addr} {e : Nat} {V : Option Addr} {ev : Nat} {X : Option Addr} {f : Nat} {m : Mg} (h : MgOwn w B P e V ev X f m) : MgAt w P e V X f m := by
  obtain ⟨us, h1, h2⟩ := h.vts
  have h3 := h.clen
  have h4 := h.vlen
  have h5 := h.blen
  exact ⟨own_at h.cn, own_nil h.cn, by omega, ⟨us, own_atN h1, VtsO.vts _ _ h2⟩, by omega, own_at h.bs, own_nil h.bs, by omega, h.sum⟩
theorem MgOwn.map {w w' : World} {B : Nat} {P : Option Addr} {e : Nat} {V : Option Addr} {ev : Nat} {X : Option Addr} {f : Nat} {m : Mg} (h : MgOwn w B P e V ev X f m) (g : ∀ T sz v n xs, w.ownsRow B T sz v n xs → w'.ownsRow B T sz v n xs) : MgOwn w' B P e V ev X f m := by
  obtain ⟨us, h1, h2⟩ := h.vts
  exact ⟨g _ _ _ _ _ h.cn, h.clen, ⟨us, g _ _ _ _ _ h1, VtsO.map (fun v n xs h => g _ _ v n xs h) _ _ h2⟩, h.vlen, g _ _ _ _ _ h.bs, h.blen, h.sum⟩
theorem MgOwn.lower {w : World} {B B' : Nat} {P : Option Addr} {e : Nat} {V : Option Addr} {ev : Nat} {X : Option Addr} {f : Nat} {m : Mg} (h : MgOwn w B P e V ev X f m) (hB : B' ≤ B) : MgOwn w B' P e V ev X f m := by
  obtain ⟨us, h1, h2⟩ := h.vts
  exact ⟨own_lower h.cn hB, h.clen, ⟨us, own_lower h1 hB, VtsO.lower hB _ _ h2⟩, h.vlen, own_lower h.bs hB, h.blen, h.sum⟩

theorem readC_may {l r : List B8} {c : Cm} {ns : List Int} (h : readC l = some ((c, ns), r)) : mayC c ns = true ∧ SumOk c := by
  unfold readC at h
  cases h1 : numsR 1152921504606846976 7 l with
  | none => rw [h1] at h; cases h
  | some a =>
    rw [h1, Option.bind_some] at h
    cases h2 : numR 4294967295 a.2 with
    | none => rw [h2] at h; cases h
    | some b =>
      have hb := (numR_some h2).2.1
      rw [h2, Option.bind_some] at h
      cases h3 : numsR 255 2 b.2 with
      | none => rw [h3] at h; cases h
      | some c' =>
        rw [h3, Option.bind_some] at h
        cases h4 : numR 8 c'.2 with
        | none => rw [h4] at h; cases h
        | some d =>
          rw [h4, Option.bind_some] at h
          split at h
          · cases h
          · cases h5 : numR 255 (d.2.drop d.1) with
            | none => rw [h5] at h; cases h
            | some e =>
              rw [h5, Option.bind_some] at h
              cases h6 : numsR 15 e.1 e.2 with
              | none => rw [h6] at h; cases h
              | some f =>
                rw [h6, Option.bind_some] at h
                split at h
                · rename_i hm
                  injection h with h
                  injection h with h _
                  injection h with h7 h
                  subst h7 h
                  refine ⟨hm, ?_, ?_⟩
                  · show 0 ≤ ((b.1 : Nat) : Int); omega
                  · show ((b.1 : Nat) : Int) < 4294967296; omega
                · cases h

theorem vtinfo : (Try.prog.info? 74).map (fun i => (i.zero, i.size, i.bytes)) = some (some (.agg #[.int .i64 0, .int .i64 0, .int .i64 zeroC.id, .int .i64 zeroC.kind, .string zeroC.key, .int .i64 zeroC.blob, .int .i64 zeroC.other, .int .i64 zeroC.index, .int .i64 zeroC.node, .int .i64 zeroC.size, .int .u32 zeroC.sum, .int .i64 zeroC.k, .int .i64 zeroC.m, .slice none 0 0]), 14, 136) := by kernel_rfl
/-- append(own, vote) -/
theorem app_vote {w : World} {ops : Array Oper} {rest : List Oper} {o : Oper} {a : Act} {Q : Exit → Act → World → Prop}
    (hg : o.guard = none) (s x : Operand) (hop : o.op = Op.call { callee := Callee.builtin Builtin.append, args := #[s, x], argTypes := #[38, 38] })
    (base : Nat) {v : Value} {n : Nat} {xs : List Value} (hs : a.eval s = v) (hown : w.ownsRow base 74 14 v n xs)
    {A : Option Addr} {c : Nat} (hx : a.eval x = .slice A 1 c) {news : List Value} (hl : news.length = 14) (hA : At w A news) (h1 : ∀ u ∈ news, u.oneCell' = true)
    (hnil : A = none → c = 0) (hbytes : (n + 1) * 136 ≤ 140737488355328) (hbase : base ≤ w.heap.size)
    (hK : ∀ A' c' w', w'.ownsRow base 74 14 (.slice A' (n + 1) c') (n + 1) (xs ++ news) → Below base w w' → w.grownBy w' v.ownBlock ∧ ((Value.slice A' (n + 1) c').ownBlock = v.ownBlock ∨ (Value.slice A' (n + 1) c').ownBlock = some w.heap.size) → n + 1 ≤ c' →
      wpList Try.prog ops Q rest (a.put o.dst (.slice A' (n + 1) c')) w') :
    wpList Try.prog ops Q (o :: rest) a w := by
  obtain ⟨i, hi, hz0, hz1, hz2⟩ := info_parts vtinfo
  exact wpList_plain hg fun _ hK' => wp_app w s x 38 hop base 74 i _ 14 136 Try.underlying38 hi hz0 hz1 hz2 rfl (by decide) v n xs hs hown A 1 c hx news (by simpa using hl) hA h1 hnil
    (by unfold maxLen; omega) hbytes hbase fun A' c' w' h1 h2 h3 h4 => hK' _ _ (hK A' c' w' h1 h2 h3 h4)
theorem vtc_one {s b : Int} (c : Cm) (A : Option Addr) (n d : Nat) : ∀ u ∈ (#[.int .i64 s, .int .i64 b, .int .i64 c.id, .int .i64 c.kind, .string c.key, .int .i64 c.blob, .int .i64 c.other, .int .i64 c.index, .int .i64 c.node, .int .i64 c.size, .int .u32 c.sum, .int .i64 c.k, .int .i64 c.m, .slice A n d] : Array Value).toList, u.oneCell' = true := by
  intro u hu
  simp at hu
  rcases hu with rfl | rfl | rfl | rfl | rfl | rfl | rfl | rfl | rfl | rfl | rfl | rfl | rfl | rfl <;> rfl

/-- A struct is stored into the midst of a block. -/
theorem run_storeVar_at {P : Program} (w : World) (g o : Nat) (t ty : TypeId) (cur : Array Value) (vs : List Value) (hg : w.heap[g]? = some (.cells cur t (0, 0))) (hi : (P.info? ty).map (·.size) = some vs.length)
    (hl : o + vs.length ≤ cur.size) (h1 : ∀ v ∈ vs, v.oneCell' = true) :
    (storeVar ty ⟨g, o, none⟩ (.agg vs.toArray)).run P w = .ok () (w.setRow g (cur.toList.take o ++ vs ++ cur.toList.drop (o + vs.length)).toArray) := by
  have := run_storeCells_at (P := P) g o t vs 0 cur w hg (by omega) h1
  rw [Nat.add_zero] at this
  cases hq : P.info? ty with
  | none => simp [hq] at hi
  | some i =>
    have hs : vs.length = i.size := by simp [hq] at hi; omega
    simp [storeVar, sizeOf, typeInfo, hq, Value.cells, hs, this]
theorem wp_store_at {P : Program} {o' : Oper} {a : Act} {w : World} {K : Act → World → Prop} {Q : Exit → Act → World → Prop} (ty : TypeId) (x y : Operand) (ho : o'.op = .store ty x y)
    (g o : Nat) (vs : List Value) (hx : a.eval x = .pointer (some ⟨g, o, none⟩)) (hy : a.eval y = .agg vs.toArray)
    (t : TypeId) (cur : Array Value) (hg : w.heap[g]? = some (.cells cur t (0, 0))) (hi : (P.info? ty).map (·.size) = some vs.length)
    (hl : o + vs.length ≤ cur.size) (h1 : ∀ v ∈ vs, v.oneCell' = true)
    (h : K (a.put o'.dst undef) (w.setRow g (cur.toList.take o ++ vs ++ cur.toList.drop (o + vs.length)).toArray)) : o'.wp P a w K Q := by
  unfold Oper.wp execOp
  simp only [ho, hx, hy, Instr.storeAt, Instr.sureAddr, Sem.run_bind, Sem.run_pure, Result.andThen_ok, run_storeVar_at w g o t ty cur vs hg hi hl h1]
  exact h
theorem wpList_store_at {P : Program} {ops : Array Oper} {rest : List Oper} {o' : Oper} {a : Act} {w : World} {Q : Exit → Act → World → Prop} (hgd : o'.guard = none) (ty : TypeId) (x y : Operand) (ho : o'.op = .store ty x y)
    (g o : Nat) (vs : List Value) (hx : a.eval x = .pointer (some ⟨g, o, none⟩)) (hy : a.eval y = .agg vs.toArray)
    (t : TypeId) (cur : Array Value) (hg : w.heap[g]? = some (.cells cur t (0, 0))) (hi : (P.info? ty).map (·.size) = some vs.length)
    (hl : o + vs.length ≤ cur.size) (h1 : ∀ v ∈ vs, v.oneCell' = true)
    (h : wpList P ops Q rest (a.put o'.dst undef) (w.setRow g (cur.toList.take o ++ vs ++ cur.toList.drop (o + vs.length)).toArray)) : wpList P ops Q (o' :: rest) a w :=
  wpList_plain hgd fun _ hK => wp_store_at ty x y ho g o vs hx hy t cur hg hi hl h1 (hK _ _ h)
theorem at_part {w : World} {g o n : Nat} {cur : Array Value} {t : TypeId} {fr : Nat × Nat} {vs : List Value} (hg : w.heap[g]? = some (.cells cur t fr)) (hv : (cur.toList.drop o).take n = vs) : At w (some ⟨g, o, none⟩) vs := by
  intro i x hx
  refine ⟨g, o, rfl, ?_⟩
  rw [cell_of_row w g (o + i) cur t fr hg]
  subst hv
  rw [List.getElem?_take] at hx
  split at hx
  · rw [List.getElem?_drop] at hx
    simpa using hx
  · cases hx
theorem grown_row (w : World) (g : Nat) (cs : Array Value) : w.grownBy (w.setRow g cs) (some g) :=
  ⟨rfl, rfl, rfl, by simp, fun k _ hne => setRow_other w g k cs fun he => hne (by rw [he])⟩
theorem FdAt.grown {w w' : World} {pr g c : Nat} {A : Option Addr} {l : List B8} (h : FdAt w pr A c l) (hg : w.grownBy w' (some g)) (hp : pr < g) : FdAt w' pr A c l :=
  ⟨(hg.block pr (Array.getElem?_eq_some_iff.1 h.hd).1 (fun he => by injection he with he; omega)).trans h.hd, h.at'.grown' hg (fun b off he hh => by injection hh with hh; have := h.far b off he; omega), h.far, h.len, h.nil, h.spot⟩
theorem RdAt.grown {w w' : World} {pr g c : Nat} {A : Option Addr} {bad : Bool} {l : List B8} (h : RdAt w pr A c bad l) (hg : w.grownBy w' (some g)) (hp : pr < g) : RdAt w' pr A c bad l :=
  ⟨(hg.block pr (Array.getElem?_eq_some_iff.1 h.hd).1 (fun he => by injection he with he; omega)).trans h.hd, h.at'.grown' hg (fun b off he hh => by injection hh with hh; have := h.far b off he; omega), h.far, h.len, h.nil, h.spot⟩
theorem RdS.grown {w w' : World} {pr g : Nat} {st : Option (List B8)} (h : RdS w pr st) (hg : w.grownBy w' (some g)) (hp : pr < g) : RdS w' pr st := by
  cases st with
  | none => obtain ⟨A, c, l, h⟩ := h; exact ⟨A, c, l, h.grown hg hp⟩
  | some l => obtain ⟨A, c, h⟩ := h; exact ⟨A, c, h.grown hg hp⟩

theorem wpList_put_at {P : Program} {ops : Array Oper} {rest : List Oper} {o' : Oper} {a : Act} {w : World} {Q : Exit → Act → World → Prop} (hgd : o'.guard = none) (ty : TypeId) (x y : Operand) (ho : o'.op = .store ty x y)
    (g o : Nat) (vs : List Value) (hx : a.eval x = .pointer (some ⟨g, o, none⟩)) (hy : a.eval y = .agg vs.toArray)
    (t : TypeId) (cur new : Array Value) (hg : w.heap[g]? = some (.cells cur t (0, 0))) (hi : (P.info? ty).map (·.size) = some vs.length)
    (hl : o + vs.length ≤ cur.size) (h1 : ∀ v ∈ vs, v.oneCell' = true) (hnew : cur.toList.take o ++ vs ++ cur.toList.drop (o + vs.length) = new.toList)
    (h : ∀ w', w.grownBy w' (some g) → w'.heap[g]? = some (.cells new t (0, 0)) → wpList P ops Q rest (a.put o'.dst undef) w') : wpList P ops Q (o' :: rest) a w := by
  refine wpList_store_at hgd ty x y ho g o vs hx hy t cur hg hi hl h1 ?_
  rw [hnew, Array.toArray_toList]
  exact h _ (grown_row w g new) (setRow_heap w g cur new t (0, 0) hg)
theorem cmd_one (c : Cm) (A : Option Addr) (n d : Nat) : ∀ v ∈ ([.int .i64 c.id, .int .i64 c.kind, .string c.key, .int .i64 c.blob, .int .i64 c.other, .int .i64 c.index, .int .i64 c.node, .int .i64 c.size, .int .u32 c.sum, .int .i64 c.k, .int .i64 c.m, .slice A n d] : List Value), v.oneCell' = true := by
  intro v hv
  simp only [List.mem_cons, List.not_mem_nil, or_false] at hv
  rcases hv with rfl | rfl | rfl | rfl | rfl | rfl | rfl | rfl | rfl | rfl | rfl | rfl <;> rfl
theorem msg_one (m : Mh) (A V X : Option Addr) (n d n' d' n2 d2 : Nat) : ∀ v ∈ ([.int .i64 m.kind, .int .i64 m.frm, .int .i64 m.to, .int .i64 m.ballot, .int .i64 m.slot, .int .i64 m.blob, .int .i64 m.index, .int .i64 m.epoch, .int .i64 m.id, .bool m.ok, .int .i64 m.cmd.id, .int .i64 m.cmd.kind, .string m.cmd.key, .int .i64 m.cmd.blob, .int .i64 m.cmd.other, .int .i64 m.cmd.index, .int .i64 m.cmd.node, .int .i64 m.cmd.size, .int .u32 m.cmd.sum, .int .i64 m.cmd.k, .int .i64 m.cmd.m, .slice A n d, .slice V n' d', .slice X n2 d2] : List Value), v.oneCell' = true := by
  intro v hv
  simp only [List.mem_cons, List.not_mem_nil, or_false] at hv
  rcases hv with rfl | rfl | rfl | rfl | rfl | rfl | rfl | rfl | rfl | rfl | rfl | rfl | rfl | rfl | rfl | rfl | rfl | rfl | rfl | rfl | rfl | rfl | rfl | rfl <;> rfl
/-- Blocks from B on, below S, are as they were. -/
def KeepS (B S : Nat) (w w' : World) : Prop := ∀ k, B ≤ k → k < S → w'.heap[k]? = w.heap[k]?
theorem own_keepS {w w' : World} {B e sz n : Nat} {v : Value} {xs : List Value} (h : w.ownsRow B e sz v n xs) (hk : KeepS B w.heap.size w w') : w'.ownsRow B e sz v n xs := by
  obtain ⟨h1, h2⟩ := h
  rcases h2 with h2 | ⟨g, cap, cur, hv, hg, hh, h3⟩
  · exact ⟨h1, .inl h2⟩
  · exact ⟨h1, .inr ⟨g, cap, cur, hv, hg, (hk g hg (Array.getElem?_eq_some_iff.1 hh).1).trans hh, h3⟩⟩
theorem Two.new {w3 w1 w2 : World} {pr G gv : Nat} (h : Two w3 w1 pr G) (k : Two w1 w2 pr gv) (hgv : w3.heap.size ≤ gv) : Two w3 w2 pr G :=
  ⟨k.os.trans h.os, k.tape.trans h.tape, k.output.trans h.output, Nat.le_trans h.size k.size, fun i hi h1 h2 => (k.block i (Nat.lt_of_lt_of_le hi h.size) h1 (by omega)).trans (h.block i hi h1 h2)⟩
end Go.Proofs.Ytfcacplecapgfaa
