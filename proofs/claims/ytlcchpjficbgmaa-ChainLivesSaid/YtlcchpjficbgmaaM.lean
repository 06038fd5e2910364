/- A map with whole numbers as keys: what stands at a key, as values. No program in sight. -/
import Derived.Test.YtlcchpjficbgmaaV
import Derived.Maps.OwnOps
import Derived.Maps.Views
namespace Go.Proofs.Ytlcchpjficbgmaa
open Go.RowKit Go.Maps
set_option linter.unusedVariables false
set_option linter.unusedSimpArgs false

/-- Block b is a map of at most n entries, with f i at key i. -/
def IMap (P : Program) (k : TypeId) (w : World) (b n : Nat) (f : Int → Option Value) : Prop :=
  ∃ D : DataW Value, w.ownsMap P k (fun v => some (.held v, [])) b n D ∧ IsMap D ∧ ∀ i z, D.atKey (.int .i64 i) z = match f i with | some v => .held v | none => z

variable {P : Program} {k e t : TypeId} {w w' : World} {b n : Nat} {f : Int → Option Value}

theorem IMap.made (w : World) : IMap P k (w.alloc (.map #[] 0)) w.heap.size 0 (fun _ => none) :=
  ⟨.map [], World.ownsMap_made w P k _, isMap_empty, fun i z => rfl⟩
theorem IMap.lt (h : IMap P k w b n f) : b < w.heap.size := by
  obtain ⟨D, h, _⟩ := h; exact h.lt
theorem IMap.of_block (h : IMap P k w b n f) (hb : w'.heap[b]? = w.heap[b]?) : IMap P k w' b n f := by
  obtain ⟨D, ⟨es, clock, h1, h2, h3, h4⟩, h5⟩ := h
  exact ⟨D, ⟨es, clock, hb.trans h1, h2, h3, h4⟩, h5⟩

theorem held_inj {H : Type} {u v : H} (h : (DataW.held u : DataW H) = .held v) : u = v := by injection h

/-- m[i], with ok. -/
theorem IMap.look (h : IMap P k w b n f) (hk : P.underlying k = some (.int .i64)) (ht : P.underlying t = some (.map k e)) {z : Value} (hz : (zeroValue e).run P w = .ok z w) {i : Int} (hi : (Lit.int .i64 i).wf = true) :
    (Instr.lookup t (.map (some b)) (.int .i64 i) true).run P w = .ok (match f i with | some v => .tuple #[v, .bool true] | none => .tuple #[z, .bool false]) w := by
  obtain ⟨D, ⟨es, clock, hb, F, _, rfl⟩, hm, hD⟩ := h
  rcases fit_look true (int_keyed hk) ht hz hb F (keyOf_int_mk hk hi) with ⟨hrun, _, hat⟩ | ⟨e0, y, _, _, hrun, hRv, hat, _⟩
  · have h1 := hat (.held (.bool true))
    have h2 := hat (.held (.bool false))
    rw [hD] at h1 h2
    cases hf : f i with
    | none => simpa using hrun
    | some v =>
      rw [hf] at h1 h2
      have := held_inj (h1.symm.trans h2)
      cases this
  · simp only [Option.some.injEq] at hRv
    subst hRv
    have h1 := hat (.held (.bool true))
    have h2 := hat (.held (.bool false))
    rw [hD] at h1 h2
    cases hf : f i with
    | none =>
      rw [hf] at h1 h2
      have a1 := held_inj h1
      have a2 := held_inj h2
      rw [← a1] at a2
      cases a2
    | some v =>
      rw [hf] at h1
      have := held_inj h1
      subst this
      simpa using hrun

/-- m[i] = v. -/
theorem IMap.store (h : IMap P k w b n f) (hk : P.underlying k = some (.int .i64)) (ht : P.underlying t = some (.map k e)) (hn : n < maxLen) {i : Int} (hi : (Lit.int .i64 i).wf = true) (v : Value) :
    ∃ w', (Instr.mapUpdate t (.map (some b)) (.int .i64 i) v).run P w = .ok () w' ∧ IMap P k w' b (n + 1) (fun j => if j = i then some v else f j) ∧ w.grownBy w' (some b) := by
  obtain ⟨D, h, hm, hD⟩ := h
  obtain ⟨w', h1, h2, h3⟩ := h.update (int_keyed hk) ht hn (keyOf_int_mk hk hi) (val := v) (d := .held v) (ps := []) rfl
  refine ⟨w', h1, ⟨_, h2, hm.put _ _, fun j z => ?_⟩, h3⟩
  by_cases hj : j = i
  · subst hj
    rw [atKey_put_same hm (by trivial)]
    simp
  · rw [atKey_put_other (by simpa using hj), hD]
    simp [hj]

theorem wpList_look {ops : Array Oper} {rest : List Oper} {o : Oper} {a : Act} {Q : Exit → Act → World → Prop}
    (hg : o.guard = none) (m x : Operand) (t : TypeId) (hop : o.op = Op.lookup t m x true) (k e : TypeId) (hk : P.underlying k = some (.int .i64)) (ht : P.underlying t = some (.map k e)) {z : Value} (hz : ∀ w, (zeroValue e).run P w = .ok z w)
    {b n : Nat} {f : Int → Option Value} (hm : a.eval m = .map (some b)) (h : IMap P k w b n f) {i : Int} (hx : a.eval x = .int .i64 i) (hi : (Lit.int .i64 i).wf = true)
    {r : Value} (hr : r = match f i with | some v => .tuple #[v, .bool true] | none => .tuple #[z, .bool false])
    (hK : wpList P ops Q rest (a.put o.dst r) w) :
    wpList P ops Q (o :: rest) a w := by
  subst hr
  refine wpList_plain hg fun K' hK' => ?_
  have hrun := h.look hk ht (hz w) hi
  unfold Oper.wp
  simp only [execOp, hop, hm, hx, hrun, Result.andThen]
  simp [hrun, Result.andThen]
  exact hK' _ _ hK

end Go.Proofs.Ytlcchpjficbgmaa
