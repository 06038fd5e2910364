/- amphoraref05.ReadMsg: the parts, by states: plain. -/
import Derived.Test.YtfcacplecapgfaaG11
namespace Go.Proofs.Ytfcacplecapgfaa
open Go.RowKit
set_option linter.unusedVariables false
set_option linter.unusedSimpArgs false

def thenR {α β : Type} (f : List B8 → Option (α × List B8)) (g : α → List B8 → Option (β × List B8)) (l : List B8) : Option ((α × β) × List B8) :=
  (f l).bind fun p => (g p.1 p.2).map fun q => ((p.1, q.1), q.2)
theorem StepG.then' {α β : Type} {f : List B8 → Option (α × List B8)} {g : α → List B8 → Option (β × List B8)} {st s1 s2 : Option (List B8)} {a : α} {b : β} (h : StepG f st a s1) (k : StepG (g a) s1 b s2) : StepG (thenR f g) st (a, b) s2 := by
  rcases h.split with ⟨h1, h2⟩ | ⟨l, r, rfl, h1, rfl⟩
  · rcases k.split with ⟨_, k2⟩ | ⟨l', r', k1, _, _⟩
    · rw [k2]
      refine StepG.bad ?_
      cases st with
      | none => rfl
      | some l => rw [Option.bind_some] at h1 ⊢; rw [thenR, h1]; rfl
    · rw [h2] at k1; cases k1
  · rcases k.split with ⟨k1, k2⟩ | ⟨l', r', k1, k2, rfl⟩
    · rw [k2]
      refine StepG.bad ?_
      rw [Option.bind_some] at k1 ⊢
      rw [thenR, h1, Option.bind_some, k1]; rfl
    · injection k1 with k1
      subst k1
      refine StepG.good ?_
      rw [thenR, h1, Option.bind_some, k2]; rfl
/-- A byte that is nought or one. -/
def okR (l : List B8) : Option (Bool × List B8) := (takeR 1 l).bind fun t => if 1 < (t.1.getD 0 0#8).toNat then none else some (t.1.getD 0 0#8 == 1#8, t.2)
theorem StepG.vote {k : Nat} {st s1 s2 s3 : Option (List B8)} {V : List Vt} {b0 b1 : Nat} {c : Cm} {ns : List Int} (h : StepG (votesR k) st V s1) (g : StepG (numsR 1152921504606846976 2) s1 [b0, b1] s2) (q : StepG readC s2 (c, ns) s3) :
    StepG (votesR (k + 1)) st (V ++ [(((b0 : Nat) : Int), ((b1 : Nat) : Int), c, ns)]) s3 := by
  have hh := (h.then' (g := fun _ => thenR (numsR 1152921504606846976 2) fun _ => readC) (g.then' (g := fun _ => readC) q)).split
  have e : ∀ l, votesR (k + 1) l = (thenR (votesR k) (fun _ => thenR (numsR 1152921504606846976 2) fun _ => readC) l).map fun p => (p.1.1 ++ [((((p.1.2.1.getD 0 0 : Nat) : Int), ((p.1.2.1.getD 1 0 : Nat) : Int), p.1.2.2) : Vt)], p.2) := by
    intro l
    rw [votesR, thenR]
    cases votesR k l with
    | none => rfl
    | some p =>
      rw [Option.bind_some, Option.bind_some, thenR]
      cases numsR 1152921504606846976 2 p.2 with
      | none => rfl
      | some a =>
        rw [Option.bind_some, Option.bind_some]
        cases readC a.2 with
        | none => rfl
        | some c => rfl
  rcases hh with ⟨h1, h2⟩ | ⟨l, r, rfl, h1, rfl⟩
  · rw [h2]
    refine StepG.bad ?_
    cases st with
    | none => rfl
    | some l => rw [Option.bind_some] at h1 ⊢; rw [e, h1]; rfl
  · refine StepG.good ?_
    rw [e, h1]; rfl
theorem StepG.votes0 {st : Option (List B8)} : StepG (votesR 0) st [] st := by
  cases st with
  | none => exact StepG.bad rfl
  | some l => exact StepG.good rfl
/-- The parts of a message, one by one. -/
def partsM : List B8 → Option ((List Nat × Bool × (Cm × List Int) × Nat × List Vt × Nat × List B8) × List B8) :=
  thenR (numsR 1152921504606846976 9) fun _ => thenR okR fun _ => thenR readC fun _ => thenR (numR 1000) fun n => thenR (votesR n) fun _ => thenR (numR 2000) fun k => takeR k
theorem readM_parts (l : List B8) : readM l = (partsM l).bind fun p => if mayM (mkM p.1.1 p.1.2.1 p.1.2.2.1.1 p.1.2.2.1.2 p.1.2.2.2.2.1 p.1.2.2.2.2.2.2) = true then some (mkM p.1.1 p.1.2.1 p.1.2.2.1.1 p.1.2.2.1.2 p.1.2.2.2.2.1 p.1.2.2.2.2.2.2, p.2) else none := by
  unfold readM partsM
  rw [thenR]
  cases numsR 1152921504606846976 9 l with
  | none => rfl
  | some a =>
    rw [Option.bind_some, Option.bind_some, thenR, okR]
    cases takeR 1 a.2 with
    | none => rfl
    | some t =>
      rw [Option.bind_some, Option.bind_some]
      by_cases hx : 1 < (t.1.getD 0 0#8).toNat
      · rw [if_pos hx, if_pos hx]; rfl
      · rw [if_neg hx, if_neg hx, Option.bind_some, thenR]
        cases readC t.2 with
        | none => rfl
        | some c =>
          rw [Option.bind_some, Option.bind_some, thenR]
          cases numR 1000 c.2 with
          | none => rfl
          | some n =>
            rw [Option.bind_some, Option.bind_some, thenR]
            cases votesR n.1 n.2 with
            | none => rfl
            | some vs =>
              rw [Option.bind_some, Option.bind_some, thenR]
              cases numR 2000 vs.2 with
              | none => rfl
              | some k =>
                rw [Option.bind_some, Option.bind_some]
                cases takeR k.1 k.2 with
                | none => rfl
                | some b => rfl
theorem oneM_none {l : List B8} {st : Option (List B8)} {a : List Nat} {ok : Bool} {c : Cm} {cn : List Int} {n k : Nat} {vs : List Vt} {bs : List B8} (h : StepG partsM (some l) (a, ok, (c, cn), n, vs, k, bs) st)
    (hb : st = none ∨ (∃ x r, st = some (x :: r)) ∨ mayM (mkM a ok c cn vs bs) = false) : oneM l = none := by
  unfold oneM
  rw [readM_parts]
  rcases h.split with ⟨h1, h2⟩ | ⟨l', r, hl, h1, h2⟩
  · rw [Option.bind_some] at h1
    rw [h1]; rfl
  · injection hl with hl
    subst hl
    rw [h1, Option.bind_some]
    simp only
    rcases hb with hb | ⟨x, r', hb⟩ | hb
    · rw [h2] at hb; cases hb
    · rw [h2] at hb
      injection hb with hb
      subst hb
      cases mayM (mkM a ok c cn vs bs) <;> rfl
    · rw [hb]; rfl
theorem oneM_good {l : List B8} {a : List Nat} {ok : Bool} {c : Cm} {cn : List Int} {n k : Nat} {vs : List Vt} {bs : List B8} (h : StepG partsM (some l) (a, ok, (c, cn), n, vs, k, bs) (some []))
    (hb : mayM (mkM a ok c cn vs bs) = true) : oneM l = some (mkM a ok c cn vs bs) := by
  unfold oneM
  rw [readM_parts]
  rcases h.split with ⟨h1, h2⟩ | ⟨l', r, hl, h1, h2⟩
  · cases h2
  · injection hl with hl
    injection h2 with h2
    subst hl h2
    rw [h1, Option.bind_some]
    simp only
    rw [hb]; rfl
theorem put_row {w3 w : World} {pr g : Nat} {st : Option (List B8)} {cs : Array Value} {T : TypeId} (o : Nat) (v : Value) (hg : w.heap[g]? = some (.cells cs T (0, 0))) (hS : RdS w pr st) (hT : Two w3 w pr g) (hp : pr < g) :
    (w.setCell ⟨g, o, none⟩ v).heap[g]? = some (.cells (cs.toList.set o v).toArray T (0, 0)) ∧ RdS (w.setCell ⟨g, o, none⟩ v) pr st ∧ Two w3 (w.setCell ⟨g, o, none⟩ v) pr g := by
  obtain ⟨h1, h2, h3, _⟩ := put_step o v hg hS hT hp
  refine ⟨?_, h2, h3⟩
  rw [h1]
  congr 2
  apply Array.ext'
  simp

theorem ok_step {s9 s10 : Option (List B8)} {t : List B8} (h : StepG (takeR 1) s9 t s10) :
    (s10 = none ∧ ∀ b, StepG okR s9 b none) ∨ ∃ x r, s10 = some r ∧ t = [x] ∧ (1 < x.toNat → ∀ b, StepG okR s9 b none) ∧ (¬ 1 < x.toNat → StepG okR s9 (x == 1#8) (some r)) := by
  rcases h.split with ⟨h1, h2⟩ | ⟨l, r, rfl, h1, rfl⟩
  · refine .inl ⟨h2, fun b => StepG.bad ?_⟩
    cases s9 with
    | none => rfl
    | some l => rw [Option.bind_some] at h1 ⊢; rw [okR, h1]; rfl
  · have hx : ∃ x, t = [x] := by
      unfold takeR at h1
      split at h1
      · cases h1
      · rename_i hh
        injection h1 with h1
        injection h1 with h1 _
        cases l with
        | nil => exact absurd (by simp : ([] : List B8).length < 1) hh
        | cons x l => exact ⟨x, by rw [← h1]; rfl⟩
    obtain ⟨x, rfl⟩ := hx
    refine .inr ⟨x, r, rfl, rfl, fun hx b => StepG.bad ?_, fun hx => StepG.good ?_⟩
    · rw [Option.bind_some, okR, h1, Option.bind_some]
      simp only [List.getD_cons_zero]
      rw [if_pos hx]
    · rw [okR, h1, Option.bind_some]
      simp only [List.getD_cons_zero]
      rw [if_neg hx]

theorem load_atG {P : Program} {ops : Array Oper} {rest : List Oper} {o : Oper} {a : Act} {w : World} {Q : Exit → Act → World → Prop} (hw : Region.wanted o (yielded ops a.tmps) = true) (ty : TypeId) (x : Operand) (ho : o.op = .load ty x)
    {A : Addr} (hx : a.eval x = .pointer (some A)) {cs : List Value} {d : TypeDesc} (hA : At w (some A) cs)
    (hu : P.underlying ty = some d) (hd : (match d with | .struct _ | .array _ _ => true | _ => false) = true) (hi : (P.info? ty).map (·.size) = some cs.length)
    (h : wpList P ops Q rest (a.put o.dst (.agg cs.toArray)) w) : wpList P ops Q (o :: rest) a w := by
  unfold wpList
  rw [if_pos hw]
  exact .inl (wp_load_at ty x ho hx hA hu hd hi h)

/-- What is appended to nothing leaves all old blocks. -/
theorem own_app {w w' : World} {B e sz n : Nat} {v : Value} {xs : List Value} (h : w.ownsRow B e sz v n xs) (hg : w.grownBy w' (Value.slice none 0 0).ownBlock) : w'.ownsRow B e sz v n xs := by
  refine h.kept hg ?_
  cases hu : v.ownBlock with
  | none => exact .inl rfl
  | some b => exact .inr (by simp [Value.ownBlock])
theorem below_two {w w3 w' : World} {pr G : Nat} (hb : Below w.heap.size w w3) (h : Two w3 w' pr G) (hp : w.heap.size ≤ pr ∧ w.heap.size ≤ G) : Below w.heap.size w w' :=
  ⟨h.os.trans hb.os, h.tape.trans hb.tape, h.output.trans hb.output, Nat.le_trans hb.size h.size, fun k hk => (h.block k (Nat.lt_of_lt_of_le hk hb.size) (by omega) (by omega)).trans (hb.block k hk)⟩
end Go.Proofs.Ytfcacplecapgfaa
