/- Chains: chain.Learn. -/
import Derived.Test.YtlcchpjficbgmaaC3
namespace Go.Proofs.Ytlcchpjficbgmaa
open Go.RowKit Go.Maps
set_option linter.unusedVariables false
set_option linter.unusedSimpArgs false

/-- m[i] = v, at an operation of a region. -/
theorem wp_mapset {P : Program} {w : World} {o : Oper} {a : Act} {K : Act → World → Prop} {Q : Exit → Act → World → Prop}
    (m x v : Operand) (t : TypeId) (hop : o.op = Op.mapUpdate t m x v) (k e : TypeId) (hk : P.underlying k = some (.int .i64)) (ht : P.underlying t = some (.map k e))
    {b n : Nat} {f : Int → Option Value} (hm : a.eval m = .map (some b)) (h : IMap P k w b n f) (hn : n < maxLen) {i : Int} (hx : a.eval x = .int .i64 i) (hi : (Lit.int .i64 i).wf = true)
    {val : Value} (hv : a.eval v = val) (hK : ∀ w', IMap P k w' b (n + 1) (fun j => if j = i then some val else f j) → w.grownBy w' (some b) → K (a.put o.dst undef) w') :
    o.wp P a w K Q := by
  obtain ⟨w', hrun, h1, h2⟩ := h.store hk ht hn hi val
  unfold Oper.wp
  simp [execOp, hop, hm, hx, hv, hrun, Result.andThen]
  exact hK w' h1 h2

theorem fits_put {p m : Nat} {w w' : World} {f : Int → Option Value} {S : List (Int × Cd)} {i : Int} {v : Value} {x : Cd} (hF : Fits p m w f S) (hu : Upd p m w w') (hn : look S i = none) (hv : CmIs p m w' v x) :
    Fits p m w' (fun j => if j = i then some v else f j) (S ++ [(i, x)]) := by
  intro j
  have h := hF j
  rw [look_snoc]
  by_cases hj : j = i
  · subst hj
    rw [hn]
    simp only [if_pos]
    exact ⟨v, rfl, hv⟩
  · cases hl : look S j with
    | none =>
      rw [hl] at h
      simp only [if_neg (Ne.symm hj), if_neg hj]
      exact h
    | some y =>
      rw [hl] at h
      obtain ⟨u, hu1, hu2⟩ := h
      exact ⟨u, by simp only [if_neg hj]; exact hu1, hu2.upd hu⟩

theorem own_typed {w : World} {B e sz n : Nat} {v : Value} {vs : List Value} (h : w.ownsRow B e sz v n vs) {b : Nat} (hb : v.ownBlock = some b) : ∃ cs fr, w.heap[b]? = some (.cells cs e fr) := by
  rcases h.2 with ⟨rfl, _⟩ | ⟨g, cap, cur, rfl, _, hg, _⟩
  · simp [Value.ownBlock] at hb
  · simp [Value.ownBlock] at hb
    subst hb
    exact ⟨cur, _, hg⟩
theorem upd_grown {p m : Nat} {w w' : World} (h : w.grownBy w' (some m)) : Upd p m w w' := ⟨h.os, h.tape, h.output, h.size, fun k hk _ h2 => h.block k hk (by simpa using h2)⟩

/-- What the region needs: the chain's map, and the command in its block. -/
abbrev Reg (W0 : World) (p m g : Nat) (c : Cm) (v : Value) (W : World) : Prop :=
  Upd p m W0 W ∧ p < W.heap.size ∧ g < W.heap.size ∧ W.cell? ⟨p, 0, none⟩ = some (.map (some m)) ∧ W.cell? ⟨g, 0, none⟩ = some (.int .i64 c.id) ∧ W.cell? ⟨g, 1, none⟩ = some (.int .i64 c.kind) ∧ W.cell? ⟨g, 2, none⟩ = some (.string c.key) ∧ W.cell? ⟨g, 3, none⟩ = some (.int .i64 c.blob) ∧ W.cell? ⟨g, 4, none⟩ = some (.int .i64 c.other) ∧ W.cell? ⟨g, 5, none⟩ = some (.int .i64 c.index) ∧ W.cell? ⟨g, 6, none⟩ = some (.int .i64 c.node) ∧ W.cell? ⟨g, 7, none⟩ = some (.int .i64 c.size) ∧ W.cell? ⟨g, 8, none⟩ = some (.int .u32 c.sum) ∧ W.cell? ⟨g, 9, none⟩ = some (.int .i64 c.k) ∧ W.cell? ⟨g, 10, none⟩ = some (.int .i64 c.m) ∧ W.cell? ⟨g, 11, none⟩ = some v
theorem Reg.step {W0 W w' : World} {p m g : Nat} {c : Cm} {v : Value} (h : Reg W0 p m g c v W) (hu : Upd p m W w') (hp : w'.heap[p]? = W.heap[p]?) (hg : g ≠ p ∧ g ≠ m) : Reg W0 p m g c v w' := by
  obtain ⟨h0, h1, h2, hc, a0, a1, a2, a3, a4, a5, a6, a7, a8, a9, a10, a11⟩ := h
  have k1 : ∀ o, w'.cell? ⟨g, o, none⟩ = W.cell? ⟨g, o, none⟩ := fun o => World.cell?_of_block (hu.block g h2 hg.1 hg.2)
  have k2 : w'.cell? ⟨p, 0, none⟩ = W.cell? ⟨p, 0, none⟩ := World.cell?_of_block hp
  have hs := hu.size
  refine ⟨h0.trans hu, by omega, by omega, ?_⟩
  rw [k2, k1, k1, k1, k1, k1, k1, k1, k1, k1, k1, k1, k1]
  exact ⟨hc, a0, a1, a2, a3, a4, a5, a6, a7, a8, a9, a10, a11⟩

/-- A get's answer, whatever it is. -/
def RetAny (w : World) (b : Bool) (e : Ending) (w' : World) : Prop := ∃ (cc : Cm) (nA : Option Addr) (nl nc : Nat), e = .returned (.tuple #[.agg #[.int .i64 cc.id, .int .i64 cc.kind, .string cc.key, .int .i64 cc.blob, .int .i64 cc.other, .int .i64 cc.index, .int .i64 cc.node, .int .i64 cc.size, .int .u32 cc.sum, .int .i64 cc.k, .int .i64 cc.m, .slice nA nl nc], .bool b]) ∧ Below w.heap.size w w'
theorem get_any {w : World} {p m : Nat} {S : List (Int × Cd)} {next i : Int} (h : ChainAt w p m S next) (hi : (Lit.int .i64 i).wf = true) :
    Calls Try.prog 11 #[.pointer (some ⟨p, 0, none⟩), .int .i64 i] w (RetAny w (look S i).isSome) := by
  cases hl : look S i with
  | none => exact (get_none h hi hl).mono fun e w' ⟨A, d, h1, h2, h3⟩ => ⟨_, _, _, _, h1, h3⟩
  | some x => exact (get_some h hi hl).mono fun e w' ⟨A, d, h1, h2, h3⟩ => ⟨_, _, _, _, h1, h3⟩

theorem wf_slot {i : Int} (h1 : 1 ≤ i) (h2 : i ≤ 1152921504606846977) : (Lit.int .i64 i).wf = true := WalkArith.wf_i64 (by omega)

theorem look_some {S : List (Int × Cd)} {j : Int} (h : look S j ≠ none) : ∃ e, e ∈ S ∧ e.1 = j := by
  unfold look at h
  cases hf : S.find? fun e => e.1 == j with
  | none => rw [hf] at h; exact absurd rfl h
  | some e => exact ⟨e, List.mem_of_find?_eq_some hf, by simpa using List.find?_some hf⟩
theorem ChainAt.nx_le {w : World} {p m : Nat} {S : List (Int × Cd)} {nx nx' : Int} (h : ChainAt w p m S nx') (hall : ∀ j, 1 ≤ j → j < nx → look S j ≠ none) : nx ≤ 1152921504606846977 := by
  by_cases hn : nx ≤ 1152921504606846977
  · exact hn
  · obtain ⟨e, he, h1⟩ := look_some (hall 1152921504606846977 (by omega) (by omega))
    have := (h.keys e he).2
    omega
theorem ChainAt.bump {w : World} {p m : Nat} {S : List (Int × Cd)} {nx : Int} (h : ChainAt w p m S nx) (v : Int) : ChainAt (w.setCell ⟨p, 1, none⟩ (.int .i64 v)) p m S v := by
  have hu : Upd p m w (w.setCell ⟨p, 1, none⟩ (.int .i64 v)) := ⟨rfl, rfl, rfl, by simp [World.setCell], fun k hk h1 _ => heap_setCell_other _ _ _ _ h1⟩
  refine ⟨heap_setCell_same w p 1 _ _ _ h.head, h.pm, ?_, h.keys⟩
  obtain ⟨f, h1, h2⟩ := h.map
  refine ⟨f, h1.of_block (heap_setCell_other _ _ _ _ (Ne.symm h.pm)), fun i => ?_⟩
  have := h2 i
  cases e : look S i with
  | none => rw [e] at this; exact this
  | some x =>
    rw [e] at this
    obtain ⟨v, hv, hc⟩ := this
    exact ⟨v, hv, hc.upd hu⟩
theorem upd_bump {p m : Nat} {w : World} (v : Value) : Upd p m w (w.setCell ⟨p, 1, none⟩ v) := ⟨rfl, rfl, rfl, by simp [World.setCell], fun k hk h1 _ => heap_setCell_other _ _ _ _ h1⟩

/-- What the loop over the next slots keeps. -/
def Loop (w : World) (p m : Nat) (S : List (Int × Cd)) (g : Nat) (s10 s11 : Value) (wr : World) : Prop :=
  ∃ (nx : Int) (gb : Nat) (cc : Cm) (nA : Option Addr) (nl nc : Nat), ChainAt wr p m S nx ∧ Upd p m w wr ∧ 1 ≤ nx ∧ (∀ j, 1 ≤ j → j < nx → look S j ≠ none) ∧ g = (1152921504606846978 - nx).toNat ∧
    s10 = .pointer (some ⟨gb, 0, none⟩) ∧ gb ≠ p ∧ wr.heap[gb]? = some (.cells #[.int .i64 cc.id, .int .i64 cc.kind, .string cc.key, .int .i64 cc.blob, .int .i64 cc.other, .int .i64 cc.index, .int .i64 cc.node, .int .i64 cc.size, .int .u32 cc.sum, .int .i64 cc.k, .int .i64 cc.m, .slice nA nl nc] 27 (0, 0)) ∧ s11 = .bool (look S nx).isSome

set_option maxHeartbeats 1000000 in
set_option maxRecDepth 100000 in
theorem learn_new {w : World} {p m : Nat} {S : List (Int × Cd)} {next i : Int} {x : Cd} {A : Option Addr} {n a : Nat} (h : ChainAt w p m S next) (hx : look S i = none) (h1 : 1 ≤ i) (h2 : i ≤ 1152921504606846976) (hS : S.length < 1000000)
    (hA : At w A (ints x.2)) (hn : n = x.2.length) (hnil : A = none → a = 0) (hmax : x.2.length * 8 ≤ 140737488351232)
    (hnx : 1 ≤ next) (hall : ∀ j, 1 ≤ j → j < next → look S j ≠ none) :
    Calls Try.prog 10 #[.pointer (some ⟨p, 0, none⟩), .int .i64 i, .agg #[.int .i64 x.1.id, .int .i64 x.1.kind, .string x.1.key, .int .i64 x.1.blob, .int .i64 x.1.other, .int .i64 x.1.index, .int .i64 x.1.node, .int .i64 x.1.size, .int .u32 x.1.sum, .int .i64 x.1.k, .int .i64 x.1.m, .slice A n a]] w fun e w' =>
      e = .returned (.int .i64 0) ∧ Upd p m w w' ∧ ∃ nx, ChainAt w' p m (S ++ [(i, x)]) nx ∧ 1 ≤ nx ∧ (∀ j, 1 ≤ j → j < nx → look (S ++ [(i, x)]) j ≠ none) ∧ look (S ++ [(i, x)]) nx = none := by
  obtain ⟨c, l⟩ := x
  have HN := Lib.hid hn
  have HX := Lib.hid hx
  have HALL := Lib.hid hall
  clear hn hx hall
  obtain ⟨f, hf, hF⟩ := h.map
  have HV : Hid (f i = none) := by have := hF i; rw [HX.out] at this; exact this
  have h0 := blk_cell h.head 0
  simp at h0
  have hlt := h.lt
  have hw := wf_slot h1 (by omega)
  go_enter Try.func10, Try.ntmps10
  go_wp2_with (first
    | (go_at_call 22; refine (none_calls (h.below (below1 _ _))).mono ?_; rintro e w' ⟨rfl, rfl⟩)
    | (at_lookup; refine wpList_look rfl _ _ _ rfl 3 27 Try.underlying3 Try.underlying41 zeroCmd rfl (hf.of_block (Below.heap_alloc _ _ _ hlt.2)) rfl hw (r := .tuple #[.agg #[.int .i64 cm0.id, .int .i64 cm0.kind, .string cm0.key, .int .i64 cm0.blob, .int .i64 cm0.other, .int .i64 cm0.index, .int .i64 cm0.node, .int .i64 cm0.size, .int .u32 cm0.sum, .int .i64 cm0.k, .int .i64 cm0.m, .slice none 0 0], .bool false]) (by rw [HV.out]; rfl) ?_))
  have hW2 : Reg (((w.alloc (.cells #[.int .i64 c.id, .int .i64 c.kind, .string c.key, .int .i64 c.blob, .int .i64 c.other, .int .i64 c.index, .int .i64 c.node, .int .i64 c.size, .int .u32 c.sum, .int .i64 c.k, .int .i64 c.m, .slice A n a] 27)).alloc (.cells #[.int .i64 cm0.id, .int .i64 cm0.kind, .string cm0.key, .int .i64 cm0.blob, .int .i64 cm0.other, .int .i64 cm0.index, .int .i64 cm0.node, .int .i64 cm0.size, .int .u32 cm0.sum, .int .i64 cm0.k, .int .i64 cm0.m, .slice none 0 0] 27))) p m w.heap.size c (.slice A n a) (((w.alloc (.cells #[.int .i64 c.id, .int .i64 c.kind, .string c.key, .int .i64 c.blob, .int .i64 c.other, .int .i64 c.index, .int .i64 c.node, .int .i64 c.size, .int .u32 c.sum, .int .i64 c.k, .int .i64 c.m, .slice A n a] 27)).alloc (.cells #[.int .i64 cm0.id, .int .i64 cm0.kind, .string cm0.key, .int .i64 cm0.blob, .int .i64 cm0.other, .int .i64 cm0.index, .int .i64 cm0.node, .int .i64 cm0.size, .int .u32 cm0.sum, .int .i64 cm0.k, .int .i64 cm0.m, .slice none 0 0] 27)).drew) := by
    have hC := (two_boxes w #[.int .i64 c.id, .int .i64 c.kind, .string c.key, .int .i64 c.blob, .int .i64 c.other, .int .i64 c.index, .int .i64 c.node, .int .i64 c.size, .int .u32 c.sum, .int .i64 c.k, .int .i64 c.m, .slice A n a] #[.int .i64 cm0.id, .int .i64 cm0.kind, .string cm0.key, .int .i64 cm0.blob, .int .i64 cm0.other, .int .i64 cm0.index, .int .i64 cm0.node, .int .i64 cm0.size, .int .u32 cm0.sum, .int .i64 cm0.k, .int .i64 cm0.m, .slice none 0 0] 27).2.2.2
    have hp := blk_cell (h.below (below2 w (.cells #[.int .i64 c.id, .int .i64 c.kind, .string c.key, .int .i64 c.blob, .int .i64 c.other, .int .i64 c.index, .int .i64 c.node, .int .i64 c.size, .int .u32 c.sum, .int .i64 c.k, .int .i64 c.m, .slice A n a] 27) (.cells #[.int .i64 cm0.id, .int .i64 cm0.kind, .string cm0.key, .int .i64 cm0.blob, .int .i64 cm0.other, .int .i64 cm0.index, .int .i64 cm0.node, .int .i64 cm0.size, .int .u32 cm0.sum, .int .i64 cm0.k, .int .i64 cm0.m, .slice none 0 0] 27))).head 0
    exact ⟨Upd.of_below (belowN 1), by simp; omega, by simp; omega, hp, (hC 0).1, (hC 1).1, (hC 2).1, (hC 3).1, (hC 4).1, (hC 5).1, (hC 6).1, (hC 7).1, (hC 8).1, (hC 9).1, (hC 10).1, (hC 11).1⟩
  have hb2 := below2 w (.cells #[.int .i64 c.id, .int .i64 c.kind, .string c.key, .int .i64 c.blob, .int .i64 c.other, .int .i64 c.index, .int .i64 c.node, .int .i64 c.size, .int .u32 c.sum, .int .i64 c.k, .int .i64 c.m, .slice A n a] 27) (.cells #[.int .i64 cm0.id, .int .i64 cm0.kind, .string cm0.key, .int .i64 cm0.blob, .int .i64 cm0.other, .int .i64 cm0.index, .int .i64 cm0.node, .int .i64 cm0.size, .int .u32 cm0.sum, .int .i64 cm0.k, .int .i64 cm0.m, .slice none 0 0] 27)
  have hy2 : w.heap.size < ((w.alloc (.cells #[.int .i64 c.id, .int .i64 c.kind, .string c.key, .int .i64 c.blob, .int .i64 c.other, .int .i64 c.index, .int .i64 c.node, .int .i64 c.size, .int .u32 c.sum, .int .i64 c.k, .int .i64 c.m, .slice A n a] 27)).alloc (.cells #[.int .i64 cm0.id, .int .i64 cm0.kind, .string cm0.key, .int .i64 cm0.blob, .int .i64 cm0.other, .int .i64 cm0.index, .int .i64 cm0.node, .int .i64 cm0.size, .int .u32 cm0.sum, .int .i64 cm0.k, .int .i64 cm0.m, .slice none 0 0] 27)).heap.size := by simp; omega
  generalize (w.alloc (.cells #[.int .i64 c.id, .int .i64 c.kind, .string c.key, .int .i64 c.blob, .int .i64 c.other, .int .i64 c.index, .int .i64 c.node, .int .i64 c.size, .int .u32 c.sum, .int .i64 c.k, .int .i64 c.m, .slice A n a] 27)).alloc (.cells #[.int .i64 cm0.id, .int .i64 cm0.kind, .string cm0.key, .int .i64 cm0.blob, .int .i64 cm0.other, .int .i64 cm0.index, .int .i64 cm0.node, .int .i64 cm0.size, .int .u32 cm0.sum, .int .i64 cm0.k, .int .i64 cm0.m, .slice none 0 0] 27) = W0 at *
  have hgp : w.heap.size ≠ p ∧ w.heap.size ≠ m := by omega
  refine wp_region_held_drew (S := fun w' => Upd p m W0 w' ∧ p < w'.heap.size ∧ w.heap.size < w'.heap.size ∧ w'.cell? ⟨p, 0, none⟩ = some (.map (some m)) ∧ w'.cell? ⟨w.heap.size, 0, none⟩ = some (.int .i64 c.id) ∧ w'.cell? ⟨w.heap.size, 1, none⟩ = some (.int .i64 c.kind) ∧ w'.cell? ⟨w.heap.size, 2, none⟩ = some (.string c.key) ∧ w'.cell? ⟨w.heap.size, 3, none⟩ = some (.int .i64 c.blob) ∧ w'.cell? ⟨w.heap.size, 4, none⟩ = some (.int .i64 c.other) ∧ w'.cell? ⟨w.heap.size, 5, none⟩ = some (.int .i64 c.index) ∧ w'.cell? ⟨w.heap.size, 6, none⟩ = some (.int .i64 c.node) ∧ w'.cell? ⟨w.heap.size, 7, none⟩ = some (.int .i64 c.size) ∧ w'.cell? ⟨w.heap.size, 8, none⟩ = some (.int .u32 c.sum) ∧ w'.cell? ⟨w.heap.size, 9, none⟩ = some (.int .i64 c.k) ∧ w'.cell? ⟨w.heap.size, 10, none⟩ = some (.int .i64 c.m) ∧ w'.cell? ⟨w.heap.size, 11, none⟩ = some (.slice A n a)) (by kernel_rfl) hW2 (fun hHeld => ?_)
  refine wpAnyH_take (i := 0) (v := ?_) rfl (by kernel_rfl) (by kernel_rfl) (by kernel_rfl) (fun _ _ _ h => h) (Or.inl ⟨by rfl, ?_⟩) (by assumption) ?_; rotate_left; (intro w hSw; (try dsimp only at hSw); go_simp; (first | done | (with_reducible rfl))); (try simp only [List.getElem_toArray, List.getElem_cons_succ, List.getElem_cons_zero, Act.put, List.setIfInBounds_toArray, List.set_cons_zero, List.set_cons_succ])
  refine wpAnyH_take (i := 1) (v := ?_) rfl (by kernel_rfl) (by kernel_rfl) (by kernel_rfl) (fun _ _ _ h => h) (Or.inl ⟨by rfl, ?_⟩) (by assumption) ?_; rotate_left; (intro w hSw; (try dsimp only at hSw); go_simp; (first | done | (with_reducible rfl))); (try simp only [List.getElem_toArray, List.getElem_cons_succ, List.getElem_cons_zero, Act.put, List.setIfInBounds_toArray, List.set_cons_zero, List.set_cons_succ])
  refine wpAnyH_take (i := 2) (v := ?_) rfl (by kernel_rfl) (by kernel_rfl) (by kernel_rfl) (fun _ _ _ h => h) (Or.inl ⟨by rfl, ?_⟩) (by assumption) ?_; rotate_left; (intro w hSw; (try dsimp only at hSw); go_simp; (first | done | (with_reducible rfl))); (try simp only [List.getElem_toArray, List.getElem_cons_succ, List.getElem_cons_zero, Act.put, List.setIfInBounds_toArray, List.set_cons_zero, List.set_cons_succ])
  refine wpAnyH_take (i := 3) (v := ?_) rfl (by kernel_rfl) (by kernel_rfl) (by kernel_rfl) (fun _ _ _ h => h) (Or.inl ⟨by rfl, ?_⟩) (by assumption) ?_; rotate_left; (intro w hSw; (try dsimp only at hSw); go_simp; (first | done | (with_reducible rfl))); (try simp only [List.getElem_toArray, List.getElem_cons_succ, List.getElem_cons_zero, Act.put, List.setIfInBounds_toArray, List.set_cons_zero, List.set_cons_succ])
  refine wpAnyH_take (i := 4) (v := ?_) rfl (by kernel_rfl) (by kernel_rfl) (by kernel_rfl) (fun _ _ _ h => h) (Or.inl ⟨by rfl, ?_⟩) (by assumption) ?_; rotate_left; (intro w hSw; (try dsimp only at hSw); go_simp; (first | done | (with_reducible rfl))); (try simp only [List.getElem_toArray, List.getElem_cons_succ, List.getElem_cons_zero, Act.put, List.setIfInBounds_toArray, List.set_cons_zero, List.set_cons_succ])
  refine wpAnyH_take (i := 5) (v := ?_) rfl (by kernel_rfl) (by kernel_rfl) (by kernel_rfl) (fun _ _ _ h => h) (Or.inl ⟨by rfl, ?_⟩) (by assumption) ?_; rotate_left; (intro w hSw; (try dsimp only at hSw); go_simp; (first | done | (with_reducible rfl))); (try simp only [List.getElem_toArray, List.getElem_cons_succ, List.getElem_cons_zero, Act.put, List.setIfInBounds_toArray, List.set_cons_zero, List.set_cons_succ])
  refine wpAnyH_ready (rs := [6]) (by kernel_rfl) (by simp) ?_; refine AllReadyH.cons rfl (fun K hK => ?_) AllReadyH.nil
  go_simp
  refine (own_calls c (hA.below (hb2.trans (belowN 1))) HN.out hnil (by omega)).mono ?_
  rintro e w1 ⟨A1, d1, rfl, ho, hb⟩
  unfold cmv
  go_wp2_with fail
  have hS := Reg.step hHeld (Upd.of_below hb) (hb.block p (by simp; omega)) hgp
  clear hHeld
  refine hK.out _ _ hS (fun hHeld => ?_)
  clear hK K hS
  (try simp only [List.getElem_toArray, List.getElem_cons_succ, List.getElem_cons_zero, Act.put, List.setIfInBounds_toArray, List.set_cons_zero, List.set_cons_succ])
  refine wpAnyH_ready (rs := [7]) (by kernel_rfl) (by simp) ?_; refine AllReadyH.cons rfl (fun K hK => ?_) AllReadyH.nil
  rw [if_pos (by rfl)]
  have hbW : Below w.heap.size w w1 := (hb2.trans (belowN 1)).trans (hb.mono (by show w.heap.size ≤ W0.heap.size; omega))
  refine wp_mapset _ _ _ _ rfl 3 27 Try.underlying3 Try.underlying41 rfl (hf.of_block (hbW.block m hlt.2)) (by unfold maxLen; omega) rfl hw rfl ?_
  intro w2 hm2 hg2
  have hs1 : p < w1.heap.size := And.left (And.right (by assumption : Reg W0 p m w.heap.size c (.slice A n a) w1))
  have hS3 := Reg.step hHeld (upd_grown hg2) (hg2.block p hs1 (by simp; exact h.pm)) hgp
  clear hHeld
  refine hK.out _ _ hS3 (fun hHeld => ?_)
  clear hK K hS3
  (try simp only [List.getElem_toArray, List.getElem_cons_succ, List.getElem_cons_zero, Act.put, List.setIfInBounds_toArray, List.set_cons_zero, List.set_cons_succ])
  refine wpAnyH_done (by kernel_rfl) ?_ _
  have hU2 : Upd p m w w2 := (Upd.of_below hbW).trans (upd_grown hg2)
  have hch : ChainAt w2 p m (S ++ [(i, (c, l))]) next := by
    refine ⟨?_, h.pm, ⟨_, by simpa using hm2, ?_⟩, ?_⟩
    · exact (hg2.block p hs1 (by simp; exact h.pm)).trans ((hbW.block p hlt.1).trans h.head)
    · have hbb : ∀ b, (Value.slice A1 l.length d1).ownBlock = some b → b ≠ p ∧ b ≠ m := by
        intro b hb'
        have h3 := (ho.lt b hb').1
        have h4 : W0.heap.size ≤ b := h3
        omega
      refine fits_put hF hU2 HX.out ⟨_, rfl, (own_irow ho hmax).upd (p := p) (upd_grown hg2) hbb, fun b hb' => ?_⟩
      obtain ⟨h5, h6⟩ := hbb b hb'
      obtain ⟨cs, fr, h7⟩ := own_typed ho hb'
      exact ⟨h5, h6, cs, fr, (hg2.block b (Array.getElem?_eq_some_iff.1 h7).1 (by simp; omega)).trans h7⟩
    · intro e he
      rcases List.mem_append.1 he with he | he
      · exact h.keys e he
      · simp at he; subst he; exact ⟨h1, h2⟩
  have hcall : Hid (∀ j, 1 ≤ j → j < next → look (S ++ [(i, (c, l))]) j ≠ none) := by
    intro j hj1 hj2
    have := HALL.out j hj1 hj2
    rw [look_snoc]
    cases hl : look S j with
    | none => exact absurd hl this
    | some y => simp
  generalize hS2 : S ++ [(i, (c, l))] = S2 at hch hcall
  have HS2 := Lib.hid hS2
  clear hS2
  clear hHeld hW2 hb2 hy2 hgp hm2 hg2 hs1 ho hb hbW HV hF hf h0 HX HALL hA hnil hmax HN hw h1 h2 hS h
  have hn2 := hch.nx_le hcall.out
  have hwn := wf_slot hnx hn2
  have h1 := blk_cell hch.head 1
  simp at h1
  go_wp2_with (go_at_call 11; refine (get_any hch hwn).mono ?_; rintro e w3 ⟨cc, nA, nl, nc, rfl, hb3⟩)
  go_loopg [10, 11] (1152921504606846978 - next).toNat (fun g s10 s11 wr => Loop w p m S2 g s10 s11 wr)
  case atStart =>
    have hlt2 := hch.lt
    have hz3 := hb3.size
    exact ⟨next, w3.heap.size, cc, nA, nl, nc, (hch.below hb3).below (below1 _ _), (hU2.trans (.of_below hb3)).trans (.of_below (below1 _ _)), hnx, hcall.out, rfl, rfl, by omega, heap_alloc_new _ _, rfl⟩
  case round =>
    clear hb3 w3 h1 hch hU2
    obtain ⟨nx, gb, cc, nA, nl, nc, hch, hU, hnx, hall, rfl, rfl, hgp, hblk, hs11⟩ := hrel
    have hn2 := hch.nx_le hall
    have hltr := hch.lt
    have hltb : gb < wr.heap.size := (Array.getElem?_eq_some_iff.1 hblk).1
    have h1 := blk_cell hch.head 1
    have hf1 := blk_frozen hch.head 1
    simp at h1
    cases hl : look S2 nx with
    | none =>
      rw [hl] at hs11
      subst hs11
      have HL := Lib.hid hl
      clear hl
      go_wp2_with fail
      go_ret
      rw [HS2.out]
      exact ⟨rfl, hU, nx, hch, hnx, hall, HL.out⟩
    | some y =>
      rw [hl] at hs11
      subst hs11
      have HL := Lib.hid (by rw [hl]; simp : look S2 nx ≠ none)
      have HA := Lib.hid hall
      clear hl hall
      have hlt1 : nx ≤ 1152921504606846976 := by
        obtain ⟨e, he, h3⟩ := look_some HL.out
        have := (hch.keys e he).2
        omega
      have hch2 := hch.bump (nx + 1)
      have hU2 := hU.trans (upd_bump (m := m) (.int .i64 (nx + 1)))
      have hw2 := wf_slot (i := nx + 1) (by omega) (by omega)
      go_wp2_with (first
        | (refine wpList_load_row rfl 27 (.tmp 10) rfl gb rfl 27 #[.int .i64 cc.id, .int .i64 cc.kind, .string cc.key, .int .i64 cc.blob, .int .i64 cc.other, .int .i64 cc.index, .int .i64 cc.node, .int .i64 cc.size, .int .u32 cc.sum, .int .i64 cc.k, .int .i64 cc.m, .slice nA nl nc] (0, 0) _ ((heap_setCell_other _ _ _ _ hgp).trans hblk) Try.underlying27 rfl (by kernel_rfl) ?_)
        | (go_at_call 11; refine (get_any (hch2.below (below1 _ _)) hw2).mono ?_; rintro e w3 ⟨c4, nA4, nl4, nc4, rfl, hb3⟩))
      have hsz : (wr.setCell ⟨p, 1, none⟩ (.int .i64 (nx + 1))).heap.size = wr.heap.size := by simp [World.setCell]
      go_roundg (1152921504606846978 - (nx + 1)).toNat
      case measure => omega
      case rel =>
        refine ⟨nx + 1, (wr.setCell ⟨p, 1, none⟩ (.int .i64 (nx + 1))).heap.size, cc, nA, nl, nc, (hch2.below (below1 _ _)).below hb3, (hU2.trans (.of_below (below1 _ _))).trans (.of_below hb3), by omega, ?_, rfl, by rw [hsz], by omega, (hb3.block _ (by simp)).trans (heap_alloc_new _ _), rfl⟩
        intro j hj1 hj2
        by_cases hj : j < nx
        · exact HA.out j hj1 hj
        · obtain rfl : j = nx := by omega
          exact HL.out

end Go.Proofs.Ytlcchpjficbgmaa
