/- Chains: what a chain holds, and chain.New, none, Get, Next. -/
import Derived.Test.YtlcchpjficbgmaaC1
import Derived.Test.YtlcchpjficbgmaaM
import Derived.Carry
namespace Go.Proofs.Ytlcchpjficbgmaa
open Go.RowKit
set_option linter.unusedVariables false
set_option linter.unusedSimpArgs false

/-- A command with its nodes. -/
abbrev Cd := Cm × List Int

/-- v reads as the command x, and lies in none of the chain's two blocks. -/
def CmIs (p m : Nat) (w : World) (v : Value) (x : Cd) : Prop := ∃ n, v = cmv x.1 n ∧ IRow w n x.2 ∧ ∀ b, n.ownBlock = some b → b ≠ p ∧ b ≠ m ∧ ∃ (cs : Array Value) (fr : Nat × Nat), w.heap[b]? = some (.cells cs 3 fr)

/-- Worlds that part in two blocks, and in what is new. -/
structure Upd (p m : Nat) (w w' : World) : Prop where
  os : w'.os = w.os
  tape : w'.tape = w.tape
  output : w'.output = w.output
  size : w.heap.size ≤ w'.heap.size
  block : ∀ k, k < w.heap.size → k ≠ p → k ≠ m → w'.heap[k]? = w.heap[k]?
theorem Upd.of_below {p m : Nat} {w w' : World} (h : Below w.heap.size w w') : Upd p m w w' := ⟨h.os, h.tape, h.output, h.size, fun k hk _ _ => h.block k hk⟩
theorem Upd.trans {p m : Nat} {a b c : World} (h : Upd p m a b) (k : Upd p m b c) : Upd p m a c :=
  ⟨k.os.trans h.os, k.tape.trans h.tape, k.output.trans h.output, Nat.le_trans h.size k.size, fun i hi h1 h2 => (k.block i (Nat.lt_of_lt_of_le hi h.size) h1 h2).trans (h.block i hi h1 h2)⟩
theorem Upd.below {p m B : Nat} {w w' : World} (h : Upd p m w w') (hp : B ≤ p) (hm : B ≤ m) (hB : B ≤ w.heap.size) : Below B w w' :=
  ⟨h.os, h.tape, h.output, h.size, fun k hk => h.block k (by omega) (by omega) (by omega)⟩

theorem IRow.upd {p m : Nat} {w w' : World} {v : Value} {l : List Int} (h : IRow w v l) (hu : Upd p m w w') (hf : ∀ b, v.ownBlock = some b → b ≠ p ∧ b ≠ m) : IRow w' v l := by
  obtain ⟨A, c, rfl, hA, r⟩ := h
  refine ⟨A, c, rfl, ?_, r⟩
  intro i x hx
  obtain ⟨b, off, rfl, hc⟩ := hA i x hx
  have hb := hf b rfl
  exact ⟨b, off, rfl, (World.cell?_of_block (hu.block b (block_lt hc) hb.1 hb.2)).trans hc⟩
theorem CmIs.upd {p m : Nat} {w w' : World} {v : Value} {x : Cd} (h : CmIs p m w v x) (hu : Upd p m w w') : CmIs p m w' v x := by
  obtain ⟨n, h1, h2, h3⟩ := h
  refine ⟨n, h1, h2.upd hu (fun b hb => ⟨(h3 b hb).1, (h3 b hb).2.1⟩), fun b hb => ?_⟩
  obtain ⟨a1, a2, cs, fr, a3⟩ := h3 b hb
  exact ⟨a1, a2, cs, fr, (hu.block b (Array.getElem?_eq_some_iff.1 a3).1 a1 a2).trans a3⟩
/-- The same where the chain's blocks, and all blocks of whole numbers, are as they were. -/
theorem CmIs.keep {p m : Nat} {w w' : World} {v : Value} {x : Cd} (h : CmIs p m w v x) (hk : ∀ (k : Nat) (cs : Array Value) (fr : Nat × Nat), w.heap[k]? = some (.cells cs 3 fr) → w'.heap[k]? = w.heap[k]?) : CmIs p m w' v x := by
  obtain ⟨n, h1, ⟨A, c, rfl, hA, r⟩, h3⟩ := h
  refine ⟨_, h1, ⟨A, c, rfl, ?_, r⟩, fun b hb => ?_⟩
  · intro i u hu
    obtain ⟨b, off, rfl, hc⟩ := hA i u hu
    obtain ⟨_, _, cs, fr, a3⟩ := h3 b rfl
    exact ⟨b, off, rfl, (World.cell?_of_block (hk b cs fr a3)).trans hc⟩
  · obtain ⟨a1, a2, cs, fr, a3⟩ := h3 b hb
    exact ⟨a1, a2, cs, fr, (hk b cs fr a3).trans a3⟩

/-- What stands at a slot. -/
def look (S : List (Int × Cd)) (i : Int) : Option Cd := (S.find? fun e => e.1 == i).map (·.2)
theorem look_snoc (S : List (Int × Cd)) (i j : Int) (x : Cd) : look (S ++ [(i, x)]) j = match look S j with | some y => some y | none => if i = j then some x else none := by
  unfold look
  rw [List.find?_append]
  cases h : S.find? fun e => e.1 == j with
  | some y => simp
  | none => by_cases hij : i = j <;> simp [hij]

/-- What stands in the map fits what stands in the list. -/
def Fits (p m : Nat) (w : World) (f : Int → Option Value) (S : List (Int × Cd)) : Prop :=
  ∀ i, match look S i with | none => f i = none | some x => ∃ v, f i = some v ∧ CmIs p m w v x

/-- The chain at block p, its map at block m, holds S, and says that next is the next one. -/
structure ChainAt (w : World) (p m : Nat) (S : List (Int × Cd)) (next : Int) : Prop where
  head : w.heap[p]? = some (.cells #[.map (some m), .int .i64 next] 43 (0, 0))
  pm : p ≠ m
  map : ∃ f, IMap Try.prog 3 w m S.length f ∧ Fits p m w f S
  keys : ∀ e, e ∈ S → 1 ≤ e.1 ∧ e.1 ≤ 1152921504606846976

theorem ChainAt.lt {w : World} {p m : Nat} {S : List (Int × Cd)} {next : Int} (h : ChainAt w p m S next) : p < w.heap.size ∧ m < w.heap.size := by
  refine ⟨(Array.getElem?_eq_some_iff.1 h.head).1, ?_⟩
  obtain ⟨f, h1, _⟩ := h.map
  exact h1.lt
theorem ChainAt.below {w w' : World} {p m : Nat} {S : List (Int × Cd)} {next : Int} (h : ChainAt w p m S next) (hb : Below w.heap.size w w') : ChainAt w' p m S next := by
  obtain ⟨hp, hm⟩ := h.lt
  refine ⟨(hb.block p hp).trans h.head, h.pm, ?_, h.keys⟩
  obtain ⟨f, h1, h2⟩ := h.map
  refine ⟨f, h1.of_block (hb.block m hm), fun i => ?_⟩
  have := h2 i
  cases e : look S i with
  | none => rw [e] at this; exact this
  | some x =>
    rw [e] at this
    obtain ⟨v, hv, hc⟩ := this
    exact ⟨v, hv, hc.upd (.of_below hb)⟩

theorem ChainAt.keep {w w' : World} {p m : Nat} {S : List (Int × Cd)} {next : Int} (h : ChainAt w p m S next) (hp : w'.heap[p]? = w.heap[p]?) (hm : w'.heap[m]? = w.heap[m]?)
    (hk : ∀ (k : Nat) (cs : Array Value) (fr : Nat × Nat), w.heap[k]? = some (.cells cs 3 fr) → w'.heap[k]? = w.heap[k]?) : ChainAt w' p m S next := by
  refine ⟨hp.trans h.head, h.pm, ?_, h.keys⟩
  obtain ⟨f, h1, h2⟩ := h.map
  refine ⟨f, h1.of_block hm, fun i => ?_⟩
  have := h2 i
  cases e : look S i with
  | none => rw [e] at this; exact this
  | some x =>
    rw [e] at this
    obtain ⟨v, hv, hc⟩ := this
    exact ⟨v, hv, hc.keep hk⟩

theorem zeroCmd (w : World) : (zeroValue 27).run Try.prog w = .ok (.agg #[.int .i64 0, .int .i64 0, .string ⟨#[]⟩, .int .i64 0, .int .i64 0, .int .i64 0, .int .i64 0, .int .i64 0, .int .u32 0, .int .i64 0, .int .i64 0, .slice none 0 0]) w := by kernel_rfl

/-- A world with the block (given) at g. -/
theorem blk_cell {w : World} {g : Nat} {cs : Array Value} {t : TypeId} {fz : Nat × Nat} (h : w.heap[g]? = some (.cells cs t fz)) (i : Nat) : w.cell? ⟨g, i, none⟩ = cs[i]? := by
  simp [World.cell?, h]
theorem blk_frozen {w : World} {g : Nat} {cs : Array Value} {t : TypeId} (h : w.heap[g]? = some (.cells cs t (0, 0))) (i : Nat) : w.frozen? ⟨g, i, none⟩ = false := by
  simp [World.frozen?, h]

theorem none_calls {w : World} {p m : Nat} {S : List (Int × Cd)} {next : Int} (h : ChainAt w p m S next) :
    Calls Try.prog 22 #[.pointer (some ⟨p, 0, none⟩)] w fun e w' => e = .returned (.bool false) ∧ w = w' := by
  have h0 := blk_cell h.head 0
  simp at h0
  have hn := fun (w : World) => run_eql_map_nil (P := Try.prog) w 41 3 27 (some m) Try.underlying41
  go_enter Try.func22, Try.ntmps22
  go_wp2_with fail
  go_ret
  exact ⟨rfl, rfl⟩

/-- A call that leaves memory alone but for what is new. -/
def RetV (w : World) (v : Value) (e : Ending) (w' : World) : Prop := e = .returned v ∧ Below w.heap.size w w'

theorem new_calls (w : World) : Calls Try.prog 9 #[] w fun e w' => e = .returned (.pointer (some ⟨w.heap.size + 1, 0, none⟩)) ∧ ChainAt w' (w.heap.size + 1) w.heap.size [] 1 ∧ Below w.heap.size w w' := by
  have hmm := @run_makeMap Try.prog
  go_enter Try.func9, Try.ntmps9
  go_wp2_with fail
  go_ret
  refine ⟨rfl, ⟨?_, by omega, ⟨_, (IMap.made w).of_block ?_, fun i => rfl⟩, fun e he => by cases he⟩, below2 w _ _⟩
  · exact heap_alloc2_new w _ _
  · exact Below.heap_alloc _ _ _ (by simp)

theorem next_calls {w : World} {p m : Nat} {S : List (Int × Cd)} {next : Int} (h : ChainAt w p m S next) :
    Calls Try.prog 13 #[.pointer (some ⟨p, 0, none⟩)] w fun e w' => e = .returned (.int .i64 next) ∧ w = w' := by
  have h1 := blk_cell h.head 1
  simp at h1
  go_enter Try.func13, Try.ntmps13
  go_wp2_with (go_at_call 22; refine (none_calls h).mono ?_; rintro e w' ⟨rfl, rfl⟩)
  go_ret
  exact ⟨rfl, rfl⟩

/-- A call answers a command whose nodes are its own, and true. -/
def RetG (w : World) (x : Cd) (e : Ending) (w' : World) : Prop :=
  ∃ A d, e = .returned (.tuple #[cmv x.1 (.slice A x.2.length d), .bool true]) ∧ w'.ownsRow w.heap.size 3 1 (.slice A x.2.length d) x.2.length (ints x.2) ∧ Below w.heap.size w w'

set_option maxHeartbeats 800000 in
set_option maxRecDepth 100000 in
theorem get_some {w : World} {p m : Nat} {S : List (Int × Cd)} {next i : Int} {x : Cd} (h : ChainAt w p m S next) (hi : (Lit.int .i64 i).wf = true) (hx : look S i = some x) :
    Calls Try.prog 11 #[.pointer (some ⟨p, 0, none⟩), .int .i64 i] w (RetG w x) := by
  obtain ⟨f, hf, hF⟩ := h.map
  have hFi := hF i
  rw [hx] at hFi
  obtain ⟨v, hv, n, rfl, ⟨A, d, rfl, hA, hlc, hnil, hmax⟩, hfar⟩ := hFi
  obtain ⟨c, l⟩ := x
  have HV := Lib.hid hv
  have HX := Lib.hid hx
  clear hv hx
  have h0 := blk_cell h.head 0
  simp at h0
  have hlt := h.lt
  go_enter Try.func11, Try.ntmps11
  go_wp2_with (first
    | (go_at_call 22; refine (none_calls (h.below (below1 _ _))).mono ?_; rintro e w' ⟨rfl, rfl⟩)
    | (at_lookup; refine wpList_look rfl _ _ _ rfl 3 27 Try.underlying3 Try.underlying41 zeroCmd rfl (hf.of_block (Below.heap_alloc _ _ _ hlt.2)) rfl hi (r := .tuple #[.agg #[.int .i64 c.id, .int .i64 c.kind, .string c.key, .int .i64 c.blob, .int .i64 c.other, .int .i64 c.index, .int .i64 c.node, .int .i64 c.size, .int .u32 c.sum, .int .i64 c.k, .int .i64 c.m, .slice A l.length d], .bool true]) (by rw [HV.out]; rfl) ?_)
    | (go_at_call 24; refine (own_calls c (hA.below (below2 _ _ _)) rfl hnil (by omega)).mono ?_; rintro e w1 ⟨A1, c1, rfl, ho, hb⟩; obtain ⟨hc, hfz⟩ := bcell hb; unfold cmv))
  have hb1 : w1.heap[w.heap.size]? = _ := (hb.block _ (by simp; omega)).trans (heap_alloc2_old _ _ _)
  have hr := putAll_full (vs := #[.int .i64 c.id, .int .i64 c.kind, .string c.key, .int .i64 c.blob, .int .i64 c.other, .int .i64 c.index, .int .i64 c.node, .int .i64 c.size, .int .u32 c.sum, .int .i64 c.k, .int .i64 c.m, .slice A1 l.length c1].toList) hb1 rfl
  have ho2 := putAll_owns (g := w.heap.size) (by simp; omega) #[.int .i64 c.id, .int .i64 c.kind, .string c.key, .int .i64 c.blob, .int .i64 c.other, .int .i64 c.index, .int .i64 c.node, .int .i64 c.size, .int .u32 c.sum, .int .i64 c.k, .int .i64 c.m, .slice A1 l.length c1].toList w1 0 ho
  have hbl := putAll_below (B := w.heap.size) (g := w.heap.size) (Nat.le_refl _) #[.int .i64 c.id, .int .i64 c.kind, .string c.key, .int .i64 c.blob, .int .i64 c.other, .int .i64 c.index, .int .i64 c.node, .int .i64 c.size, .int .u32 c.sum, .int .i64 c.k, .int .i64 c.m, .slice A1 l.length c1].toList w1 0 ((below2 w _ _).trans (hb.mono (by simp; omega)))
  refine bodyPost_ret (results_row2 rfl _ _ w.heap.size 27 #[.int .i64 c.id, .int .i64 c.kind, .string c.key, .int .i64 c.blob, .int .i64 c.other, .int .i64 c.index, .int .i64 c.node, .int .i64 c.size, .int .u32 c.sum, .int .i64 c.k, .int .i64 c.m, .slice A1 l.length c1] (0, 0) _ rfl hr Try.underlying27 rfl (by kernel_rfl)) rfl ?_
  exact ⟨A1, c1, rfl, own_lower ho2 (by simp; omega), hbl⟩

/-- .. and false, where nothing stands. -/
def cm0 : Cm := ⟨0, 0, ⟨#[]⟩, 0, 0, 0, 0, 0, 0, 0, 0⟩
def RetN0 (w : World) (e : Ending) (w' : World) : Prop :=
  ∃ A d, e = .returned (.tuple #[cmv cm0 (.slice A 0 d), .bool false]) ∧ w'.ownsRow w.heap.size 3 1 (.slice A 0 d) 0 (ints []) ∧ Below w.heap.size w w'

set_option maxHeartbeats 800000 in
set_option maxRecDepth 100000 in
theorem get_none {w : World} {p m : Nat} {S : List (Int × Cd)} {next i : Int} (h : ChainAt w p m S next) (hi : (Lit.int .i64 i).wf = true) (hx : look S i = none) :
    Calls Try.prog 11 #[.pointer (some ⟨p, 0, none⟩), .int .i64 i] w (RetN0 w) := by
  obtain ⟨f, hf, hF⟩ := h.map
  have hFi := hF i
  rw [hx] at hFi
  have HV := Lib.hid hFi
  have HX := Lib.hid hx
  clear hx hFi
  have h0 := blk_cell h.head 0
  simp at h0
  have hlt := h.lt
  go_enter Try.func11, Try.ntmps11
  go_wp2_with (first
    | (go_at_call 22; refine (none_calls (h.below (below1 _ _))).mono ?_; rintro e w' ⟨rfl, rfl⟩)
    | (at_lookup; refine wpList_look rfl _ _ _ rfl 3 27 Try.underlying3 Try.underlying41 zeroCmd rfl (hf.of_block (Below.heap_alloc _ _ _ hlt.2)) rfl hi (r := .tuple #[.agg #[.int .i64 cm0.id, .int .i64 cm0.kind, .string cm0.key, .int .i64 cm0.blob, .int .i64 cm0.other, .int .i64 cm0.index, .int .i64 cm0.node, .int .i64 cm0.size, .int .u32 cm0.sum, .int .i64 cm0.k, .int .i64 cm0.m, .slice none 0 0], .bool false]) (by rw [HV.out]; rfl) ?_)
    | (go_at_call 24; refine (own_calls cm0 (l := []) (n := 0) (A := none) (At.nil _ _) rfl (fun _ => rfl) (by simp)).mono ?_; rintro e w1 ⟨A1, c1, rfl, ho, hb⟩; obtain ⟨hc, hfz⟩ := bcell hb; unfold cmv))
  have hb1 : w1.heap[w.heap.size]? = _ := (hb.block _ (by simp; omega)).trans (heap_alloc2_old _ _ _)
  have hr := putAll_full (vs := #[.int .i64 cm0.id, .int .i64 cm0.kind, .string cm0.key, .int .i64 cm0.blob, .int .i64 cm0.other, .int .i64 cm0.index, .int .i64 cm0.node, .int .i64 cm0.size, .int .u32 cm0.sum, .int .i64 cm0.k, .int .i64 cm0.m, .slice A1 0 c1].toList) hb1 rfl
  have ho2 := putAll_owns (g := w.heap.size) (by simp; omega) #[.int .i64 cm0.id, .int .i64 cm0.kind, .string cm0.key, .int .i64 cm0.blob, .int .i64 cm0.other, .int .i64 cm0.index, .int .i64 cm0.node, .int .i64 cm0.size, .int .u32 cm0.sum, .int .i64 cm0.k, .int .i64 cm0.m, .slice A1 0 c1].toList w1 0 ho
  have hbl := putAll_below (B := w.heap.size) (g := w.heap.size) (Nat.le_refl _) #[.int .i64 cm0.id, .int .i64 cm0.kind, .string cm0.key, .int .i64 cm0.blob, .int .i64 cm0.other, .int .i64 cm0.index, .int .i64 cm0.node, .int .i64 cm0.size, .int .u32 cm0.sum, .int .i64 cm0.k, .int .i64 cm0.m, .slice A1 0 c1].toList w1 0 ((below2 w _ _).trans (hb.mono (by simp; omega)))
  refine bodyPost_ret (results_row2 rfl _ _ w.heap.size 27 #[.int .i64 cm0.id, .int .i64 cm0.kind, .string cm0.key, .int .i64 cm0.blob, .int .i64 cm0.other, .int .i64 cm0.index, .int .i64 cm0.node, .int .i64 cm0.size, .int .u32 cm0.sum, .int .i64 cm0.k, .int .i64 cm0.m, .slice A1 0 c1] (0, 0) _ rfl hr Try.underlying27 rfl (by kernel_rfl)) rfl ?_
  exact ⟨A1, c1, rfl, own_lower ho2 (by simp; omega), hbl⟩

end Go.Proofs.Ytlcchpjficbgmaa
