/- The law ChainOrder: its walk. -/
import Derived.Test.YtlcchpjficbgmaaC13
namespace Go.Proofs.Ytlcchpjficbgmaa
open Go.RowKit Go.Maps
set_option linter.unusedVariables false
set_option linter.unusedSimpArgs false

theorem Chain.upd_other {w w' : World} {p m p' m' : Nat} {S S' : List (Int × Cd)} {nx nx' : Int} (h : Chain w p m S nx) (h' : Chain w p' m' S' nx') (hu : Upd p' m' w w') (h1 : p ≠ p') (h2 : p ≠ m') (h3 : m ≠ p') (h4 : m ≠ m') : Chain w' p m S nx := by
  obtain ⟨hp, hm⟩ := h.lt
  obtain ⟨f, ⟨D, ⟨es, clock, hmb, _⟩, _⟩, _⟩ := h'.at'.map
  have hh := h'.at'.head
  refine ⟨h.at'.keep (hu.block p hp h1 h2) (hu.block m hm h3 h4) ?_, h.pos, h.all, h.next, h.sums⟩
  intro k cs fr hk
  refine hu.block k (Array.getElem?_eq_some_iff.1 hk).1 ?_ ?_
  · rintro rfl
    rw [hk] at hh
    injection hh with hh
    injection hh with _ h6 _
    exact absurd h6 (by decide)
  · rintro rfl
    rw [hk] at hmb
    injection hmb with hmb
    cases hmb

/-- Votes as a chain's entries. -/
def asc (V : List Vt) : List (Int × Cd) := V.map fun v => (v.1, v.2.2)
def Apart (V : List Vt) : Prop := V.Pairwise fun u v => u.1 ≠ v.1
theorem look_asc_none {V : List Vt} {s : Int} (h : ∀ v, v ∈ V → v.1 ≠ s) : look (asc V) s = none := by
  unfold look asc
  rw [List.find?_eq_none.2]
  · rfl
  · intro e he
    obtain ⟨v, hv, rfl⟩ := List.mem_map.1 he
    simpa using h v hv
theorem look_asc_mem {V : List Vt} (h : Apart V) {v : Vt} (hv : v ∈ V) : look (asc V) v.1 = some v.2.2 := by
  unfold look asc
  induction V with
  | nil => cases hv
  | cons x V ih =>
    obtain ⟨h1, h2⟩ := List.pairwise_cons.1 h
    rcases List.mem_cons.1 hv with rfl | hv
    · simp
    · have := h1 v hv
      simp only [List.map_cons]
      rw [List.find?_cons_of_neg (by simpa using this)]
      exact ih h2 hv
theorem Apart.rev {V : List Vt} (h : Apart V) : Apart V.reverse := by
  unfold Apart
  rw [List.pairwise_reverse]
  exact h.imp fun hab => hab.symm
theorem look_rev {V : List Vt} (h : Apart V) (s : Int) : look (asc V.reverse) s = look (asc V) s := by
  by_cases hs : ∃ v, v ∈ V ∧ v.1 = s
  · obtain ⟨v, hv, rfl⟩ := hs
    rw [look_asc_mem h hv, look_asc_mem h.rev (by simpa using hv)]
  · rw [look_asc_none (fun v hv he => hs ⟨v, hv, he⟩), look_asc_none (fun v hv he => hs ⟨v, by simpa using hv, he⟩)]
theorem run_look {S S' : List (Int × Cd)} (h : ∀ s, look S s = look S' s) : ∀ (k : Nat) (n : Int), runL S k n = runL S' k n
  | 0, n => rfl
  | k + 1, n => by rw [runL, runL, h n]; cases look S' n <;> simp [run_look h k]
theorem Chain.next_same {w w' : World} {p m p' m' : Nat} {S S' : List (Int × Cd)} {nx nx' : Int} (h : Chain w p m S nx) (h' : Chain w' p' m' S' nx') (hl : ∀ s, look S s = look S' s) : nx = nx' := by
  have a1 := h.next
  have a2 := h'.next
  by_cases h1 : nx < nx'
  · exact absurd (by rw [← hl]; exact a1) (h'.all nx h.pos h1)
  · by_cases h2 : nx' < nx
    · exact absurd (by rw [hl]; exact a2) (h.all nx' h'.pos h2)
    · omega
theorem asc_snoc (V : List Vt) (v : Vt) : asc (V ++ [v]) = asc V ++ [(v.1, v.2.2)] := by simp [asc]
/-- One more is learned. -/
theorem learn_next {V : List Vt} (hap : Apart V) {i : Nat} {v : Vt} (hv : V[i]? = some v) (h1 : 1 ≤ v.1) (h2 : v.1 ≤ 12) :
    learnR (asc (V.take i)) v.1 v.2.2 = 0 ∧ learnS (asc (V.take i)) v.1 v.2.2 = asc (V.take (i + 1)) := by
  obtain ⟨hi, he⟩ := List.getElem?_eq_some_iff.1 hv
  have hn : look (asc (V.take i)) v.1 = none := by
    refine look_asc_none fun u hu heq => ?_
    have := List.pairwise_iff_getElem.1 hap
    obtain ⟨j, hj, rfl⟩ := List.getElem_of_mem hu
    simp only [List.length_take] at hj
    have := this j i (by omega) hi (by omega)
    rw [he] at this
    simp only [List.getElem_take] at heq
    exact this heq
  have ht : V.take (i + 1) = V.take i ++ [v] := by rw [List.take_add_one, hv]; rfl
  unfold learnR learnS
  rw [if_neg (by omega), if_neg (by omega), hn, ht, asc_snoc]
  exact ⟨rfl, rfl⟩

theorem vtinfo : (Try.prog.info? 53).map (fun i => (i.zero, i.size, i.bytes)) = some (some (.agg #[.int .i64 0, .int .i64 0, .int .i64 cm0.id, .int .i64 cm0.kind, .string cm0.key, .int .i64 cm0.blob, .int .i64 cm0.other, .int .i64 cm0.index, .int .i64 cm0.node, .int .i64 cm0.size, .int .u32 cm0.sum, .int .i64 cm0.k, .int .i64 cm0.m, .slice none 0 0]), 14, 136) := by kernel_rfl

/-- append(own, vote) -/
theorem app_vote {w : World} {ops : Array Oper} {rest : List Oper} {o : Oper} {a : Act} {Q : Exit → Act → World → Prop}
    (hg : o.guard = none) (s x : Operand) (hop : o.op = Op.call { callee := Callee.builtin Builtin.append, args := #[s, x], argTypes := #[47, 47] })
    (base : Nat) {v : Value} {n : Nat} {xs : List Value} (hs : a.eval s = v) (hown : w.ownsRow base 53 14 v n xs)
    {A : Option Addr} {c : Nat} (hx : a.eval x = .slice A 1 c) {news : List Value} (hl : news.length = 14) (hA : At w A news) (h1 : ∀ u ∈ news, u.oneCell' = true)
    (hnil : A = none → c = 0) (hbytes : (n + 1) * 136 ≤ 140737488355328) (hbase : base ≤ w.heap.size)
    (hK : ∀ A' c' w', w'.ownsRow base 53 14 (.slice A' (n + 1) c') (n + 1) (xs ++ news) → Below base w w' → w.grownBy w' v.ownBlock ∧ ((Value.slice A' (n + 1) c').ownBlock = v.ownBlock ∨ (Value.slice A' (n + 1) c').ownBlock = some w.heap.size) → n + 1 ≤ c' →
      wpList Try.prog ops Q rest (a.put o.dst (.slice A' (n + 1) c')) w') :
    wpList Try.prog ops Q (o :: rest) a w := by
  obtain ⟨i, hi, hz0, hz1, hz2⟩ := info_parts vtinfo
  exact wpList_plain hg fun _ hK' => wp_app w s x 47 hop base 53 i _ 14 136 Try.underlying47 hi hz0 hz1 hz2 rfl (by decide) v n xs hs hown A 1 c hx news (by simpa using hl) hA h1 hnil
    (by unfold maxLen; omega) hbytes hbase fun A' c' w' h1 h2 h3 h4 => hK' _ _ (hK A' c' w' h1 h2 h3 h4)
theorem vtc_one {s b : Int} (c : Cm) (A : Option Addr) (n d : Nat) : ∀ u ∈ (#[.int .i64 s, .int .i64 b, .int .i64 c.id, .int .i64 c.kind, .string c.key, .int .i64 c.blob, .int .i64 c.other, .int .i64 c.index, .int .i64 c.node, .int .i64 c.size, .int .u32 c.sum, .int .i64 c.k, .int .i64 c.m, .slice A n d] : Array Value).toList, u.oneCell' = true := by
  intro u hu
  simp at hu
  rcases hu with rfl | rfl | rfl | rfl | rfl | rfl | rfl | rfl | rfl | rfl | rfl | rfl | rfl | rfl <;> rfl

theorem Vts.below {W w : World} (hb : Below W.heap.size W w) : ∀ (V : List Vt) (vs : List Value), Vts W vs V → Vts w vs V
  | [], vs, h => h
  | v :: V, vs, h => by
    obtain ⟨cs, rest, rfl, h1, h2⟩ := h
    exact ⟨cs, rest, rfl, h1.below hb, Vts.below hb V rest h2⟩
theorem At.upd {w w' : World} {p m : Nat} {A : Option Addr} {vs : List Value} (h : At w A vs) (hu : Upd p m w w') (hA : ∀ b off, A = some ⟨b, off, none⟩ → b ≠ p ∧ b ≠ m) : At w' A vs := by
  intro i x hx
  obtain ⟨b, off, rfl, hc⟩ := h i x hx
  obtain ⟨h1, h2⟩ := hA b off rfl
  exact ⟨b, off, rfl, (World.cell?_of_block (hu.block b (block_lt hc) h1 h2)).trans hc⟩
theorem has_no {V : List Vt} {s : Int} (h : hasSlot V s = false) : ∀ v, v ∈ V → v.1 ≠ s := by
  intro v hv
  unfold hasSlot at h
  rw [List.any_eq_false] at h
  simpa using h v hv
theorem Apart.snoc {V : List Vt} {v : Vt} (h : Apart V) (hn : ∀ u, u ∈ V → u.1 ≠ v.1) : Apart (V ++ [v]) := by
  unfold Apart
  rw [List.pairwise_append]
  exact ⟨h, by simp, fun a ha b hb => by simp at hb; subst hb; exact hn a ha⟩
/-- What the second loop keeps. -/
def LLoop (w w1 w2 : World) (A5 : Option Addr) (vs' : List Value) (V' : List Vt) (s40 : Value) (wq : World) : Prop :=
  ∃ i : Nat, i ≤ V'.length ∧ s40 = .int .i64 ((i : Nat) : Int) ∧ (∃ nxa, Chain wq (w.heap.size + 1) w.heap.size (asc (V'.take i)) nxa) ∧ (∃ nxb, Chain wq (w1.heap.size + 1) w1.heap.size (asc (V'.reverse.take i)) nxb) ∧
    At wq A5 vs' ∧ Below w.heap.size w wq ∧ w2.heap.size ≤ wq.heap.size

theorem load_atG {P : Program} {ops : Array Oper} {rest : List Oper} {o : Oper} {a : Act} {w : World} {Q : Exit → Act → World → Prop} (hw : Region.wanted o (yielded ops a.tmps) = true) (ty : TypeId) (x : Operand) (ho : o.op = .load ty x)
    {A : Addr} (hx : a.eval x = .pointer (some A)) {cs : List Value} {d : TypeDesc} (hA : At w (some A) cs)
    (hu : P.underlying ty = some d) (hd : (match d with | .struct _ | .array _ _ => true | _ => false) = true) (hi : (P.info? ty).map (·.size) = some cs.length)
    (h : wpList P ops Q rest (a.put o.dst (.agg cs.toArray)) w) : wpList P ops Q (o :: rest) a w := by
  unfold wpList
  rw [if_pos hw]
  exact .inl (wp_load_at ty x ho hx hA hu hd hi h)
theorem at_blk2 {w : World} {g : Nat} {cs : Array Value} {t : TypeId} {fz : Nat × Nat} (h : w.heap[g]? = some (.cells cs t fz)) : At w (some ⟨g, 2, none⟩) (cs.toList.drop 2) := by
  intro i x hx
  refine ⟨g, 2, rfl, ?_⟩
  rw [blk_cell h, ← hx, List.getElem?_drop]
  simp
theorem run_len_le (S : List (Int × Cd)) : ∀ (k : Nat) (n : Int), (runL S k n).length ≤ k
  | 0, n => by simp [runL]
  | k + 1, n => by
    rw [runL]
    cases look S n with
    | none => simp
    | some x => have := run_len_le S k (n + 1); simp; omega

def OLoop (w w2 : World) (V : List Vt) (s5 s15 : Value) (wr : World) : Prop :=
  ∃ (k : Nat) (vs' : List Value) (V' : List Vt) (A5 : Option Addr) (c5 : Nat), k ≤ V.length ∧ k ≤ 21 ∧ s15 = .int .i64 ((k : Nat) : Int) ∧ s5 = .slice A5 V'.length c5 ∧
    wr.ownsRow w2.heap.size 53 14 (.slice A5 V'.length c5) V'.length vs' ∧ Vts w vs' V' ∧ Apart V' ∧ V'.length ≤ k ∧ (∀ v, v ∈ V' → 1 ≤ v.1 ∧ v.1 ≤ 12) ∧ Below w2.heap.size w2 wr

set_option maxHeartbeats 2000000 in
set_option maxRecDepth 100000 in
theorem chainOrder_calls {w : World} {A : Option Addr} {n c : Nat} {vs : List Value} {V : List Vt} (hA : At w A vs) (hV : Vts w vs V) (hn : n = V.length) (hmax : V.length ≤ 140737488351232) :
    Calls Try.prog 8 #[.slice A n c] w (RetV w (.bool true)) := by
  subst hn
  have HLV := Lib.hid (Vts.length _ _ hV)
  have tk1 : True := trivial
  go_enter Try.func8, Try.ntmps8
  go_wp2_with (first
    | (go_at_call 9; clear tk1; refine (new_calls _).mono ?_; rintro e w1 ⟨rfl, hca, hb1⟩)
    | (go_at_call 9; refine (new_calls _).mono ?_; rintro e w2 ⟨rfl, hcb, hb2⟩))
  have hB2 : Below w.heap.size w w2 := hb1.trans (hb2.mono hb1.size)
  have hla := hca.lt
  have hlb := hcb.lt
  have hCa : Chain w2 (w.heap.size + 1) w.heap.size [] 1 := ⟨hca.below hb2, by omega, by intro j h1 h2; omega, rfl, by intro e he; cases he⟩
  have hCb : Chain w2 (w1.heap.size + 1) w1.heap.size [] 1 := ⟨hcb, by omega, by intro j h1 h2; omega, rfl, by intro e he; cases he⟩
  clear hca hcb hb2
  go_loopw [5, 15] (fun s5 s15 wr => OLoop w w2 V s5 s15 wr) (fun _ s15 _ => V.length - (intOf s15).toNat)
  case atStart => exact ⟨0, [], [], none, 0, by omega, by omega, rfl, rfl, World.ownsRow_nil _ _ _ _, rfl, List.Pairwise.nil, by simp, (fun v hv => by cases hv), Below.refl _ _⟩
  case round =>
    obtain ⟨k, vs', V', A5, c5, hk, hk21, rfl, rfl, ho, hV', hap, hlen, hsl, hB⟩ := hrel
    by_cases hgo : k < V.length ∧ k ≤ 20
    · obtain ⟨hkv, hk20⟩ := hgo
      obtain ⟨v, hv⟩ : ∃ v, V[k]? = some v := ⟨_, List.getElem?_eq_getElem hkv⟩
      obtain ⟨b, off, rfl⟩ := some_of_at hA (by rw [HLV.out]; omega)
      obtain ⟨cs, ⟨nA, nd, rfl, hnA, hnn, hnb, hns⟩, hat⟩ := Vts.at' _ _ k v hV hA hv
      have hat1 : At wr (some ⟨b, off + k * 14, none⟩) _ := hat.below (hB2.trans (hB.mono hB2.size) : Below w.heap.size w wr)
      have hki : (k : Int) < (V.length : Int) := by omega
      have hki20 : (k : Int) ≤ 20 := by omega
      obtain ⟨N, hN, e1⟩ := mod_nat v.1 12 (by decide) (by decide)
      have E1 := Lib.hid e1
      clear e1 hv hat
      go_wp2_with (refine wpList_load_at rfl 53 (.tmp 18) rfl rfl hat1 Try.underlying53 rfl (by kernel_rfl) ?_)
      have e1 : wrap64 ((IntKind.u64.wrap v.1).tmod 12) = (N : Int) := E1.out
      rw [e1, show wrap64 (1 + (N : Int)) = (N : Int) + 1 by unfold wrap64; omega]
      clear e1 E1
      have hbk := below1 wr (.cells #[.int .i64 ((N : Int) + 1), .int .i64 v.2.1, .int .i64 v.2.2.1.id, .int .i64 v.2.2.1.kind, .string v.2.2.1.key, .int .i64 v.2.2.1.blob, .int .i64 v.2.2.1.other, .int .i64 v.2.2.1.index, .int .i64 v.2.2.1.node, .int .i64 v.2.2.1.size, .int .u32 v.2.2.1.sum, .int .i64 v.2.2.1.k, .int .i64 v.2.2.1.m, .slice nA v.2.2.2.length nd] 53)
      have hBw : Below w.heap.size w (wr.alloc (.cells #[.int .i64 ((N : Int) + 1), .int .i64 v.2.1, .int .i64 v.2.2.1.id, .int .i64 v.2.2.1.kind, .string v.2.2.1.key, .int .i64 v.2.2.1.blob, .int .i64 v.2.2.1.other, .int .i64 v.2.2.1.index, .int .i64 v.2.2.1.node, .int .i64 v.2.2.1.size, .int .u32 v.2.2.1.sum, .int .i64 v.2.2.1.k, .int .i64 v.2.2.1.m, .slice nA v.2.2.2.length nd] 53)) := (hB2.trans (hB.mono hB2.size)).trans (hbk.mono (by have := hB.size; have := hB2.size; omega))
      have hblk := Lib.hid (heap_alloc_new wr (.cells #[.int .i64 ((N : Int) + 1), .int .i64 v.2.1, .int .i64 v.2.2.1.id, .int .i64 v.2.2.1.kind, .string v.2.2.1.key, .int .i64 v.2.2.1.blob, .int .i64 v.2.2.1.other, .int .i64 v.2.2.1.index, .int .i64 v.2.2.1.node, .int .i64 v.2.2.1.size, .int .u32 v.2.2.1.sum, .int .i64 v.2.2.1.k, .int .i64 v.2.2.1.m, .slice nA v.2.2.2.length nd] 53))
      have hat5 := (own_atN ho).below hbk
      have hV5 := Vts.below hBw _ _ hV'
      have hcell := Lib.hid ((blk_cell hblk.out 0).trans rfl : (World.alloc wr (.cells #[.int .i64 ((N : Int) + 1), .int .i64 v.2.1, .int .i64 v.2.2.1.id, .int .i64 v.2.2.1.kind, .string v.2.2.1.key, .int .i64 v.2.2.1.blob, .int .i64 v.2.2.1.other, .int .i64 v.2.2.1.index, .int .i64 v.2.2.1.node, .int .i64 v.2.2.1.size, .int .u32 v.2.2.1.sum, .int .i64 v.2.2.1.k, .int .i64 v.2.2.1.m, .slice nA v.2.2.2.length nd] 53)).cell? ⟨wr.heap.size, 0, none⟩ = some (.int .i64 ((N : Int) + 1)))
      have hhas := vhas_calls (c := c5) hat5 hV5 rfl (by omega) hcell.out
      have hoW := own_below ho hbk
      have hBW : Below w2.heap.size w2 (wr.alloc (.cells #[.int .i64 ((N : Int) + 1), .int .i64 v.2.1, .int .i64 v.2.2.1.id, .int .i64 v.2.2.1.kind, .string v.2.2.1.key, .int .i64 v.2.2.1.blob, .int .i64 v.2.2.1.other, .int .i64 v.2.2.1.index, .int .i64 v.2.2.1.node, .int .i64 v.2.2.1.size, .int .u32 v.2.2.1.sum, .int .i64 v.2.2.1.k, .int .i64 v.2.2.1.m, .slice nA v.2.2.2.length nd] 53)) := hB.trans (hbk.mono hB.size)
      generalize wr.alloc (.cells #[.int .i64 ((N : Int) + 1), .int .i64 v.2.1, .int .i64 v.2.2.1.id, .int .i64 v.2.2.1.kind, .string v.2.2.1.key, .int .i64 v.2.2.1.blob, .int .i64 v.2.2.1.other, .int .i64 v.2.2.1.index, .int .i64 v.2.2.1.node, .int .i64 v.2.2.1.size, .int .u32 v.2.2.1.sum, .int .i64 v.2.2.1.k, .int .i64 v.2.2.1.m, .slice nA v.2.2.2.length nd] 53) = WB at *
      cases hh : hasSlot V' ((N : Int) + 1) with
      | true =>
        rw [hh] at hhas
        refine hhas.mono ?_
        rintro e w3 ⟨rfl, hb3⟩
        clear hhas hcell hblk hh hV5 hat5
        go_wp2_with fail
        exact ⟨⟨k + 1, vs', V', A5, c5, by omega, by omega, by go_num, rfl, own_below hoW hb3, hV', hap, by omega, hsl, hBW.trans (hb3.mono hBW.size)⟩, by simp [intOf]; omega⟩
      | false =>
        have hno := has_no hh
        rw [hh] at hhas
        refine hhas.mono ?_
        rintro e w3 ⟨rfl, hb3⟩
        have hbl3 := Lib.hid (below_blk hblk.out hb3)
        have ho3 := own_below hoW hb3
        have hB3 : Below w2.heap.size w2 w3 := hBW.trans (hb3.mono hBW.size)
        have hNO := Lib.hid hno
        have hs3 := hB3.size
        clear hhas hcell hblk hh hV5 hat5 hno
        go_wp2_with (first
          | (refine load_blk (by rfl) 53 (.tmp 7) rfl wr.heap.size rfl 53 #[.int .i64 ((N : Int) + 1), .int .i64 v.2.1, .int .i64 v.2.2.1.id, .int .i64 v.2.2.1.kind, .string v.2.2.1.key, .int .i64 v.2.2.1.blob, .int .i64 v.2.2.1.other, .int .i64 v.2.2.1.index, .int .i64 v.2.2.1.node, .int .i64 v.2.2.1.size, .int .u32 v.2.2.1.sum, .int .i64 v.2.2.1.k, .int .i64 v.2.2.1.m, .slice nA v.2.2.2.length nd] (0, 0) _ hbl3.out Try.underlying53 rfl (by kernel_rfl) ?_)
          | (at_builtin; refine app_vote rfl (.tmp 33) (.tmp 35) rfl w2.heap.size rfl (own_below ho3 (below1 _ _)) rfl (news := (#[.int .i64 ((N : Int) + 1), .int .i64 v.2.1, .int .i64 v.2.2.1.id, .int .i64 v.2.2.1.kind, .string v.2.2.1.key, .int .i64 v.2.2.1.blob, .int .i64 v.2.2.1.other, .int .i64 v.2.2.1.index, .int .i64 v.2.2.1.node, .int .i64 v.2.2.1.size, .int .u32 v.2.2.1.sum, .int .i64 v.2.2.1.k, .int .i64 v.2.2.1.m, .slice nA v.2.2.2.length nd] : Array Value).toList) rfl (by exact at_new w3 #[.int .i64 ((N : Int) + 1), .int .i64 v.2.1, .int .i64 v.2.2.1.id, .int .i64 v.2.2.1.kind, .string v.2.2.1.key, .int .i64 v.2.2.1.blob, .int .i64 v.2.2.1.other, .int .i64 v.2.2.1.index, .int .i64 v.2.2.1.node, .int .i64 v.2.2.1.size, .int .u32 v.2.2.1.sum, .int .i64 v.2.2.1.k, .int .i64 v.2.2.1.m, .slice nA v.2.2.2.length nd] _ _) (vtc_one _ _ _ _) (by simp) (by omega) (by simp; omega) ?_; intro A' c' w4 ho4 hb4 hg4 hc4))
        have hv' : VtIs w (#[.int .i64 ((N : Int) + 1), .int .i64 v.2.1, .int .i64 v.2.2.1.id, .int .i64 v.2.2.1.kind, .string v.2.2.1.key, .int .i64 v.2.2.1.blob, .int .i64 v.2.2.1.other, .int .i64 v.2.2.1.index, .int .i64 v.2.2.1.node, .int .i64 v.2.2.1.size, .int .u32 v.2.2.1.sum, .int .i64 v.2.2.1.k, .int .i64 v.2.2.1.m, .slice nA v.2.2.2.length nd] : Array Value).toList ((N : Int) + 1, v.2) := ⟨nA, nd, rfl, hnA, hnn, hnb, hns⟩
        refine ⟨⟨k + 1, _, V' ++ [((N : Int) + 1, v.2)], A', c', by omega, by omega, by go_num, by simp, by simpa using ho4, Vts.snoc hv' _ _ hV', hap.snoc (fun u hu => hNO.out u hu), by simp; omega, ?_, (hB3.trans ((below1 _ _).mono hs3)).trans hb4⟩, by simp [intOf]; omega⟩
        intro u hu
        rcases List.mem_append.1 hu with hu | hu
        · exact hsl u hu
        · simp at hu; subst hu; show 1 ≤ (N : Int) + 1 ∧ (N : Int) + 1 ≤ 12; omega
    · by_cases hkv : k < V.length
      · obtain rfl : k = 21 := by omega
        obtain ⟨v, hv⟩ : ∃ v, V[21]? = some v := ⟨_, List.getElem?_eq_getElem hkv⟩
        obtain ⟨b, off, rfl⟩ := some_of_at hA (by rw [HLV.out]; omega)
        obtain ⟨cs, ⟨nA, nd, rfl, hnA, hnn, hnb, hns⟩, hat⟩ := Vts.at' _ _ 21 v hV hA hv
        have hat1 : At wr (some ⟨b, off + 21 * 14, none⟩) _ := hat.below (hB2.trans (hB.mono hB2.size) : Below w.heap.size w wr)
        have hki : (21 : Int) < (V.length : Int) := by omega
        clear hv hat
        go_wp2_with (refine wpList_load_at rfl 53 (.tmp 18) rfl rfl hat1 Try.underlying53 rfl (by kernel_rfl) ?_)
        have hoT := own_below ho (below1 wr (.cells #[.int .i64 v.1, .int .i64 v.2.1, .int .i64 v.2.2.1.id, .int .i64 v.2.2.1.kind, .string v.2.2.1.key, .int .i64 v.2.2.1.blob, .int .i64 v.2.2.1.other, .int .i64 v.2.2.1.index, .int .i64 v.2.2.1.node, .int .i64 v.2.2.1.size, .int .u32 v.2.2.1.sum, .int .i64 v.2.2.1.k, .int .i64 v.2.2.1.m, .slice nA v.2.2.2.length nd] 53))
        have hBT : Below w2.heap.size w2 (wr.alloc (.cells #[.int .i64 v.1, .int .i64 v.2.1, .int .i64 v.2.2.1.id, .int .i64 v.2.2.1.kind, .string v.2.2.1.key, .int .i64 v.2.2.1.blob, .int .i64 v.2.2.1.other, .int .i64 v.2.2.1.index, .int .i64 v.2.2.1.node, .int .i64 v.2.2.1.size, .int .u32 v.2.2.1.sum, .int .i64 v.2.2.1.k, .int .i64 v.2.2.1.m, .slice nA v.2.2.2.length nd] 53)) := hB.trans ((below1 _ _).mono hB.size)
        generalize wr.alloc (.cells #[.int .i64 v.1, .int .i64 v.2.1, .int .i64 v.2.2.1.id, .int .i64 v.2.2.1.kind, .string v.2.2.1.key, .int .i64 v.2.2.1.blob, .int .i64 v.2.2.1.other, .int .i64 v.2.2.1.index, .int .i64 v.2.2.1.node, .int .i64 v.2.2.1.size, .int .u32 v.2.2.1.sum, .int .i64 v.2.2.1.k, .int .i64 v.2.2.1.m, .slice nA v.2.2.2.length nd] 53) = WT at *
        have hAT := own_atN hoT
        have hLV' := Lib.hid (Vts.length _ _ hV')
        have hA5 : ∀ b off, A5 = some ⟨b, off, none⟩ → w2.heap.size ≤ b := by
          intro b off he
          subst he
          exact (hoT.lt b rfl).1
        clear ho hB hoT
        go_loopw [40] (fun s40 wq => LLoop w w1 w2 A5 vs' V' s40 wq) (fun s40 _ => V'.length - (intOf s40).toNat)
        case atStart => exact ⟨0, by omega, rfl, ⟨1, by simpa [asc] using hCa.below (hBT.mono (Nat.le_refl _))⟩, ⟨1, by simpa [asc] using hCb.below hBT⟩, hAT, hB2.trans (hBT.mono hB2.size), hBT.size⟩
        case round =>
          obtain ⟨i, hi, rfl, ⟨nxa, hca⟩, ⟨nxb, hcb⟩, hat, hBq, hwz⟩ := hrel
          obtain ⟨wq, rfl⟩ : ∃ wq : World, wq = wr := ⟨_, rfl⟩
          clear hAT hBT hCa hCb
          by_cases hlt : i < V'.length
          · obtain ⟨v, hv⟩ : ∃ v, V'[i]? = some v := ⟨_, List.getElem?_eq_getElem hlt⟩
            obtain ⟨u, hu⟩ : ∃ u, V'[V'.length - 1 - i]? = some u := ⟨_, List.getElem?_eq_getElem (by omega)⟩
            have hur : V'.reverse[i]? = some u := by rw [List.getElem?_reverse hlt]; exact hu
            obtain ⟨b5, o5, rfl⟩ := some_of_at hat (by rw [hLV'.out]; omega)
            have hb5 := hA5 b5 o5 rfl
            obtain ⟨cs1, ⟨nA1, nd1, rfl, hn1, hnn1, hnb1, hns1⟩, hat1⟩ := Vts.at' _ _ i v hV' hat hv
            obtain ⟨cs2, ⟨nA2, nd2, rfl, hn2, hnn2, hnb2, hns2⟩, hat2⟩ := Vts.at' _ _ (V'.length - 1 - i) u hV' hat hu
            have hv12 := hsl v (List.mem_of_getElem? hv)
            have hu12 := hsl u (List.mem_of_getElem? hu)
            have hL1 := learn_next hap hv hv12.1 hv12.2
            have hL2 := learn_next hap.rev hur hu12.1 hu12.2
            have R1 := Lib.hid hL1.1
            have S1 := Lib.hid hL1.2
            have R2 := Lib.hid hL2.1
            have S2 := Lib.hid hL2.2
            have hla1 := Lib.hid (by simp [asc]; omega : (asc (V'.take i)).length < 1000000)
            have hla2 := Lib.hid (by simp [asc]; omega : (asc (V'.reverse.take i)).length < 1000000)
            have hii : (i : Int) < (V'.length : Int) := by omega
            have hi0 : (0 : Int) ≤ (i : Int) := by omega
            have hi21 : (V'.length : Int) ≤ 21 := by omega
            have hz := hBq.size
            have hbw := below2 wq (.cells #[.int .i64 v.1, .int .i64 v.2.1, .int .i64 v.2.2.1.id, .int .i64 v.2.2.1.kind, .string v.2.2.1.key, .int .i64 v.2.2.1.blob, .int .i64 v.2.2.1.other, .int .i64 v.2.2.1.index, .int .i64 v.2.2.1.node, .int .i64 v.2.2.1.size, .int .u32 v.2.2.1.sum, .int .i64 v.2.2.1.k, .int .i64 v.2.2.1.m, .slice nA1 v.2.2.2.length nd1] 53) (.cells #[.int .i64 u.1, .int .i64 u.2.1, .int .i64 u.2.2.1.id, .int .i64 u.2.2.1.kind, .string u.2.2.1.key, .int .i64 u.2.2.1.blob, .int .i64 u.2.2.1.other, .int .i64 u.2.2.1.index, .int .i64 u.2.2.1.node, .int .i64 u.2.2.1.size, .int .u32 u.2.2.1.sum, .int .i64 u.2.2.1.k, .int .i64 u.2.2.1.m, .slice nA2 u.2.2.2.length nd2] 53)
            have hVb := Lib.hid (heap_alloc2_old wq (.cells #[.int .i64 v.1, .int .i64 v.2.1, .int .i64 v.2.2.1.id, .int .i64 v.2.2.1.kind, .string v.2.2.1.key, .int .i64 v.2.2.1.blob, .int .i64 v.2.2.1.other, .int .i64 v.2.2.1.index, .int .i64 v.2.2.1.node, .int .i64 v.2.2.1.size, .int .u32 v.2.2.1.sum, .int .i64 v.2.2.1.k, .int .i64 v.2.2.1.m, .slice nA1 v.2.2.2.length nd1] 53) (.cells #[.int .i64 u.1, .int .i64 u.2.1, .int .i64 u.2.2.1.id, .int .i64 u.2.2.1.kind, .string u.2.2.1.key, .int .i64 u.2.2.1.blob, .int .i64 u.2.2.1.other, .int .i64 u.2.2.1.index, .int .i64 u.2.2.1.node, .int .i64 u.2.2.1.size, .int .u32 u.2.2.1.sum, .int .i64 u.2.2.1.k, .int .i64 u.2.2.1.m, .slice nA2 u.2.2.2.length nd2] 53))
            have hUb := Lib.hid (heap_alloc2_new wq (.cells #[.int .i64 v.1, .int .i64 v.2.1, .int .i64 v.2.2.1.id, .int .i64 v.2.2.1.kind, .string v.2.2.1.key, .int .i64 v.2.2.1.blob, .int .i64 v.2.2.1.other, .int .i64 v.2.2.1.index, .int .i64 v.2.2.1.node, .int .i64 v.2.2.1.size, .int .u32 v.2.2.1.sum, .int .i64 v.2.2.1.k, .int .i64 v.2.2.1.m, .slice nA1 v.2.2.2.length nd1] 53) (.cells #[.int .i64 u.1, .int .i64 u.2.1, .int .i64 u.2.2.1.id, .int .i64 u.2.2.1.kind, .string u.2.2.1.key, .int .i64 u.2.2.1.blob, .int .i64 u.2.2.1.other, .int .i64 u.2.2.1.index, .int .i64 u.2.2.1.node, .int .i64 u.2.2.1.size, .int .u32 u.2.2.1.sum, .int .i64 u.2.2.1.k, .int .i64 u.2.2.1.m, .slice nA2 u.2.2.2.length nd2] 53))
            have tk1 : True := trivial
            clear hv hu hur hL1 hL2
            go_wp2_with (first
              | (refine wpList_load_at rfl 53 (.tmp 43) rfl rfl hat1 Try.underlying53 rfl (by kernel_rfl) ?_)
              | (refine wpList_load_at rfl 53 (.tmp 51) rfl rfl (hat2.below (below1 _ _)) Try.underlying53 rfl (by kernel_rfl) ?_))
            have hcaB := hca.below hbw
            have hcbB := hcb.below hbw
            have hatB := hat.below hbw
            have hBB : Below w.heap.size w ((wq.alloc (.cells #[.int .i64 v.1, .int .i64 v.2.1, .int .i64 v.2.2.1.id, .int .i64 v.2.2.1.kind, .string v.2.2.1.key, .int .i64 v.2.2.1.blob, .int .i64 v.2.2.1.other, .int .i64 v.2.2.1.index, .int .i64 v.2.2.1.node, .int .i64 v.2.2.1.size, .int .u32 v.2.2.1.sum, .int .i64 v.2.2.1.k, .int .i64 v.2.2.1.m, .slice nA1 v.2.2.2.length nd1] 53)).alloc (.cells #[.int .i64 u.1, .int .i64 u.2.1, .int .i64 u.2.2.1.id, .int .i64 u.2.2.1.kind, .string u.2.2.1.key, .int .i64 u.2.2.1.blob, .int .i64 u.2.2.1.other, .int .i64 u.2.2.1.index, .int .i64 u.2.2.1.node, .int .i64 u.2.2.1.size, .int .u32 u.2.2.1.sum, .int .i64 u.2.2.1.k, .int .i64 u.2.2.1.m, .slice nA2 u.2.2.2.length nd2] 53)) := hBq.trans (hbw.mono hz)
            have hzB : wq.heap.size + 1 < ((wq.alloc (.cells #[.int .i64 v.1, .int .i64 v.2.1, .int .i64 v.2.2.1.id, .int .i64 v.2.2.1.kind, .string v.2.2.1.key, .int .i64 v.2.2.1.blob, .int .i64 v.2.2.1.other, .int .i64 v.2.2.1.index, .int .i64 v.2.2.1.node, .int .i64 v.2.2.1.size, .int .u32 v.2.2.1.sum, .int .i64 v.2.2.1.k, .int .i64 v.2.2.1.m, .slice nA1 v.2.2.2.length nd1] 53)).alloc (.cells #[.int .i64 u.1, .int .i64 u.2.1, .int .i64 u.2.2.1.id, .int .i64 u.2.2.1.kind, .string u.2.2.1.key, .int .i64 u.2.2.1.blob, .int .i64 u.2.2.1.other, .int .i64 u.2.2.1.index, .int .i64 u.2.2.1.node, .int .i64 u.2.2.1.size, .int .u32 u.2.2.1.sum, .int .i64 u.2.2.1.k, .int .i64 u.2.2.1.m, .slice nA2 u.2.2.2.length nd2] 53)).heap.size := by simp
            generalize (wq.alloc (.cells #[.int .i64 v.1, .int .i64 v.2.1, .int .i64 v.2.2.1.id, .int .i64 v.2.2.1.kind, .string v.2.2.1.key, .int .i64 v.2.2.1.blob, .int .i64 v.2.2.1.other, .int .i64 v.2.2.1.index, .int .i64 v.2.2.1.node, .int .i64 v.2.2.1.size, .int .u32 v.2.2.1.sum, .int .i64 v.2.2.1.k, .int .i64 v.2.2.1.m, .slice nA1 v.2.2.2.length nd1] 53)).alloc (.cells #[.int .i64 u.1, .int .i64 u.2.1, .int .i64 u.2.2.1.id, .int .i64 u.2.2.1.kind, .string u.2.2.1.key, .int .i64 u.2.2.1.blob, .int .i64 u.2.2.1.other, .int .i64 u.2.2.1.index, .int .i64 u.2.2.1.node, .int .i64 u.2.2.1.size, .int .u32 u.2.2.1.sum, .int .i64 u.2.2.1.k, .int .i64 u.2.2.1.m, .slice nA2 u.2.2.2.length nd2] 53) = WB at *
            refine (learn_calls (x := v.2.2) hcaB (WalkArith.wf_i64 (by omega)) hla1.out (hn1.below hBB) rfl hnn1 hnb1 hns1).mono ?_
            rintro e w3 ⟨rfl, hU3, nxa', hca'⟩
            rw [R1.out]
            rw [S1.out] at hca'
            have hcb3 := hcbB.upd_other hcaB hU3 (by omega) (by omega) (by omega) (by omega)
            have hat3 := hatB.upd hU3 (fun b off he => by cases he; omega)
            have hU3b := Lib.hid (upd_blk hUb.out hU3 (by omega) (by omega))
            have hB3 : Below w.heap.size w w3 := hBB.trans (hU3.below (by omega) (by omega) hBB.size)
            have hc0 : w3.cell? ⟨wq.heap.size + 1, 0, none⟩ = some (.int .i64 u.1) := (blk_cell hU3b.out 0).trans rfl
            have hat2' : At w3 (some ⟨wq.heap.size + 1, 2, none⟩) (#[.int .i64 u.2.2.1.id, .int .i64 u.2.2.1.kind, .string u.2.2.1.key, .int .i64 u.2.2.1.blob, .int .i64 u.2.2.1.other, .int .i64 u.2.2.1.index, .int .i64 u.2.2.1.node, .int .i64 u.2.2.1.size, .int .u32 u.2.2.1.sum, .int .i64 u.2.2.1.k, .int .i64 u.2.2.1.m, .slice nA2 u.2.2.2.length nd2].toList) := at_blk2 hU3b.out
            have hz3 := hU3.size
            clear hVb hcaB hcbB hatB hat hat1 hat2 hca hcb hUb
            go_wp2_with (first
              | (refine load_atG (by rfl) 27 (.tmp 64) rfl rfl hat2' Try.underlying27 rfl (by kernel_rfl) ?_)
              | (go_at_call 10; refine (learn_calls (x := u.2.2) hcb3 (WalkArith.wf_i64 (by omega)) hla2.out (hn2.below hB3) rfl hnn2 hnb2 hns2).mono ?_; rintro e w4 ⟨rfl, hU4, nxb', hcb'⟩; rw [R2.out]; rw [S2.out] at hcb'))
            have hca4 := hca'.upd_other hcb3 hU4 (by omega) (by omega) (by omega) (by omega)
            have hz4 := hU4.size
            exact ⟨⟨i + 1, by omega, by go_num, ⟨_, hca4⟩, ⟨_, hcb'⟩, hat3.upd hU4 (fun b off he => by cases he; omega), hB3.trans (hU4.below (by omega) (by omega) hB3.size), by omega⟩, by simp [intOf]; omega⟩
          · obtain rfl : i = V'.length := by omega
            have e1 : V'.take V'.length = V' := List.take_length
            have e2 : V'.reverse.take V'.length = V'.reverse := by
              have := List.take_length (l := V'.reverse)
              rwa [List.length_reverse] at this
            rw [e1] at hca
            rw [e2] at hcb
            have hnx := hca.next_same hcb (fun s => (look_rev hap s).symm)
            subst hnx
            have hpos := hca.pos
            have hl1 := Lib.hid (by simp [asc]; omega : (asc V').length < 1000000)
            have hl2 := Lib.hid (by simp [asc]; omega : (asc V'.reverse).length < 1000000)
            have hrl := Lib.hid (run_look (look_rev hap))
            have hrn := Lib.hid (run_len_le (asc V') (99 : Int).toNat (max 1 1))
            have tk1 : True := trivial
            have tk2 : True := trivial
            have tk3 : True := trivial
            clear e1 e2 hat
            go_wp2_with (first
              | (go_at_call 13; clear tk1; refine (next_calls hca.at').mono ?_; rintro e w' ⟨rfl, rfl⟩)
              | (go_at_call 13; clear tk2; refine (next_calls hcb.at').mono ?_; rintro e w' ⟨rfl, rfl⟩)
              | (go_at_call 13; refine (next_calls hca.at').mono ?_; rintro e w' ⟨rfl, rfl⟩)
              | (go_at_call 14; clear tk3; refine (from_calls hca.at' hl1.out (by decide) (by decide)).mono ?_; rintro e w5 ⟨A6, n6, d6, vs6, rfl, hn6, ho6, hv6, hb6⟩; have HN6 := Lib.hid hn6; clear hn6)
              | (go_at_call 14; refine (from_calls (hcb.below hb6).at' hl2.out (by decide) (by decide)).mono ?_; rintro e w6 ⟨A7, n7, d7, vs7, rfl, hn7, ho7, hv7, hb7⟩; rw [hrl.out] at hn7 hv7; obtain rfl : n7 = n6 := hn7.trans HN6.out.symm; clear hn7; have HE := Lib.hid (eqf_calls (a := d6) (b := d7) ((own_atN ho6).below hb7) (own_atN ho7) (Cmds.below hb7 _ _ hv6) hv7 HN6.out (by have := hrn.out; have : (99 : Int).toNat = 99 := rfl; omega)))
              | (go_at_call 18; refine HE.out.mono ?_; rintro e w7 ⟨rfl, hb8⟩))
            go_ret
            have z6 := hb6.size
            have z7 := hb7.size
            exact ⟨rfl, ((hBq.trans (hb6.mono hBq.size)).trans (hb7.mono (Nat.le_trans hBq.size z6))).trans (hb8.mono (Nat.le_trans hBq.size (Nat.le_trans z6 z7)))⟩
      · obtain rfl : k = V.length := by omega
        go_wp2_with fail
        have hoT := ho
        have hBT := hB
        obtain ⟨WT, rfl⟩ : ∃ WT : World, WT = wr := ⟨_, rfl⟩
        have hAT := own_atN hoT
        have hLV' := Lib.hid (Vts.length _ _ hV')
        have hA5 : ∀ b off, A5 = some ⟨b, off, none⟩ → w2.heap.size ≤ b := by
          intro b off he
          subst he
          exact (hoT.lt b rfl).1
        clear ho hB hoT
        go_loopw [40] (fun s40 wq => LLoop w w1 w2 A5 vs' V' s40 wq) (fun s40 _ => V'.length - (intOf s40).toNat)
        case atStart => exact ⟨0, by omega, rfl, ⟨1, by simpa [asc] using hCa.below (hBT.mono (Nat.le_refl _))⟩, ⟨1, by simpa [asc] using hCb.below hBT⟩, hAT, hB2.trans (hBT.mono hB2.size), hBT.size⟩
        case round =>
          obtain ⟨i, hi, rfl, ⟨nxa, hca⟩, ⟨nxb, hcb⟩, hat, hBq, hwz⟩ := hrel
          obtain ⟨wq, rfl⟩ : ∃ wq : World, wq = wr := ⟨_, rfl⟩
          clear hAT hBT hCa hCb
          by_cases hlt : i < V'.length
          · obtain ⟨v, hv⟩ : ∃ v, V'[i]? = some v := ⟨_, List.getElem?_eq_getElem hlt⟩
            obtain ⟨u, hu⟩ : ∃ u, V'[V'.length - 1 - i]? = some u := ⟨_, List.getElem?_eq_getElem (by omega)⟩
            have hur : V'.reverse[i]? = some u := by rw [List.getElem?_reverse hlt]; exact hu
            obtain ⟨b5, o5, rfl⟩ := some_of_at hat (by rw [hLV'.out]; omega)
            have hb5 := hA5 b5 o5 rfl
            obtain ⟨cs1, ⟨nA1, nd1, rfl, hn1, hnn1, hnb1, hns1⟩, hat1⟩ := Vts.at' _ _ i v hV' hat hv
            obtain ⟨cs2, ⟨nA2, nd2, rfl, hn2, hnn2, hnb2, hns2⟩, hat2⟩ := Vts.at' _ _ (V'.length - 1 - i) u hV' hat hu
            have hv12 := hsl v (List.mem_of_getElem? hv)
            have hu12 := hsl u (List.mem_of_getElem? hu)
            have hL1 := learn_next hap hv hv12.1 hv12.2
            have hL2 := learn_next hap.rev hur hu12.1 hu12.2
            have R1 := Lib.hid hL1.1
            have S1 := Lib.hid hL1.2
            have R2 := Lib.hid hL2.1
            have S2 := Lib.hid hL2.2
            have hla1 := Lib.hid (by simp [asc]; omega : (asc (V'.take i)).length < 1000000)
            have hla2 := Lib.hid (by simp [asc]; omega : (asc (V'.reverse.take i)).length < 1000000)
            have hii : (i : Int) < (V'.length : Int) := by omega
            have hi0 : (0 : Int) ≤ (i : Int) := by omega
            have hi21 : (V'.length : Int) ≤ 21 := by omega
            have hz := hBq.size
            have hbw := below2 wq (.cells #[.int .i64 v.1, .int .i64 v.2.1, .int .i64 v.2.2.1.id, .int .i64 v.2.2.1.kind, .string v.2.2.1.key, .int .i64 v.2.2.1.blob, .int .i64 v.2.2.1.other, .int .i64 v.2.2.1.index, .int .i64 v.2.2.1.node, .int .i64 v.2.2.1.size, .int .u32 v.2.2.1.sum, .int .i64 v.2.2.1.k, .int .i64 v.2.2.1.m, .slice nA1 v.2.2.2.length nd1] 53) (.cells #[.int .i64 u.1, .int .i64 u.2.1, .int .i64 u.2.2.1.id, .int .i64 u.2.2.1.kind, .string u.2.2.1.key, .int .i64 u.2.2.1.blob, .int .i64 u.2.2.1.other, .int .i64 u.2.2.1.index, .int .i64 u.2.2.1.node, .int .i64 u.2.2.1.size, .int .u32 u.2.2.1.sum, .int .i64 u.2.2.1.k, .int .i64 u.2.2.1.m, .slice nA2 u.2.2.2.length nd2] 53)
            have hVb := Lib.hid (heap_alloc2_old wq (.cells #[.int .i64 v.1, .int .i64 v.2.1, .int .i64 v.2.2.1.id, .int .i64 v.2.2.1.kind, .string v.2.2.1.key, .int .i64 v.2.2.1.blob, .int .i64 v.2.2.1.other, .int .i64 v.2.2.1.index, .int .i64 v.2.2.1.node, .int .i64 v.2.2.1.size, .int .u32 v.2.2.1.sum, .int .i64 v.2.2.1.k, .int .i64 v.2.2.1.m, .slice nA1 v.2.2.2.length nd1] 53) (.cells #[.int .i64 u.1, .int .i64 u.2.1, .int .i64 u.2.2.1.id, .int .i64 u.2.2.1.kind, .string u.2.2.1.key, .int .i64 u.2.2.1.blob, .int .i64 u.2.2.1.other, .int .i64 u.2.2.1.index, .int .i64 u.2.2.1.node, .int .i64 u.2.2.1.size, .int .u32 u.2.2.1.sum, .int .i64 u.2.2.1.k, .int .i64 u.2.2.1.m, .slice nA2 u.2.2.2.length nd2] 53))
            have hUb := Lib.hid (heap_alloc2_new wq (.cells #[.int .i64 v.1, .int .i64 v.2.1, .int .i64 v.2.2.1.id, .int .i64 v.2.2.1.kind, .string v.2.2.1.key, .int .i64 v.2.2.1.blob, .int .i64 v.2.2.1.other, .int .i64 v.2.2.1.index, .int .i64 v.2.2.1.node, .int .i64 v.2.2.1.size, .int .u32 v.2.2.1.sum, .int .i64 v.2.2.1.k, .int .i64 v.2.2.1.m, .slice nA1 v.2.2.2.length nd1] 53) (.cells #[.int .i64 u.1, .int .i64 u.2.1, .int .i64 u.2.2.1.id, .int .i64 u.2.2.1.kind, .string u.2.2.1.key, .int .i64 u.2.2.1.blob, .int .i64 u.2.2.1.other, .int .i64 u.2.2.1.index, .int .i64 u.2.2.1.node, .int .i64 u.2.2.1.size, .int .u32 u.2.2.1.sum, .int .i64 u.2.2.1.k, .int .i64 u.2.2.1.m, .slice nA2 u.2.2.2.length nd2] 53))
            have tk1 : True := trivial
            clear hv hu hur hL1 hL2
            go_wp2_with (first
              | (refine wpList_load_at rfl 53 (.tmp 43) rfl rfl hat1 Try.underlying53 rfl (by kernel_rfl) ?_)
              | (refine wpList_load_at rfl 53 (.tmp 51) rfl rfl (hat2.below (below1 _ _)) Try.underlying53 rfl (by kernel_rfl) ?_))
            have hcaB := hca.below hbw
            have hcbB := hcb.below hbw
            have hatB := hat.below hbw
            have hBB : Below w.heap.size w ((wq.alloc (.cells #[.int .i64 v.1, .int .i64 v.2.1, .int .i64 v.2.2.1.id, .int .i64 v.2.2.1.kind, .string v.2.2.1.key, .int .i64 v.2.2.1.blob, .int .i64 v.2.2.1.other, .int .i64 v.2.2.1.index, .int .i64 v.2.2.1.node, .int .i64 v.2.2.1.size, .int .u32 v.2.2.1.sum, .int .i64 v.2.2.1.k, .int .i64 v.2.2.1.m, .slice nA1 v.2.2.2.length nd1] 53)).alloc (.cells #[.int .i64 u.1, .int .i64 u.2.1, .int .i64 u.2.2.1.id, .int .i64 u.2.2.1.kind, .string u.2.2.1.key, .int .i64 u.2.2.1.blob, .int .i64 u.2.2.1.other, .int .i64 u.2.2.1.index, .int .i64 u.2.2.1.node, .int .i64 u.2.2.1.size, .int .u32 u.2.2.1.sum, .int .i64 u.2.2.1.k, .int .i64 u.2.2.1.m, .slice nA2 u.2.2.2.length nd2] 53)) := hBq.trans (hbw.mono hz)
            have hzB : wq.heap.size + 1 < ((wq.alloc (.cells #[.int .i64 v.1, .int .i64 v.2.1, .int .i64 v.2.2.1.id, .int .i64 v.2.2.1.kind, .string v.2.2.1.key, .int .i64 v.2.2.1.blob, .int .i64 v.2.2.1.other, .int .i64 v.2.2.1.index, .int .i64 v.2.2.1.node, .int .i64 v.2.2.1.size, .int .u32 v.2.2.1.sum, .int .i64 v.2.2.1.k, .int .i64 v.2.2.1.m, .slice nA1 v.2.2.2.length nd1] 53)).alloc (.cells #[.int .i64 u.1, .int .i64 u.2.1, .int .i64 u.2.2.1.id, .int .i64 u.2.2.1.kind, .string u.2.2.1.key, .int .i64 u.2.2.1.blob, .int .i64 u.2.2.1.other, .int .i64 u.2.2.1.index, .int .i64 u.2.2.1.node, .int .i64 u.2.2.1.size, .int .u32 u.2.2.1.sum, .int .i64 u.2.2.1.k, .int .i64 u.2.2.1.m, .slice nA2 u.2.2.2.length nd2] 53)).heap.size := by simp
            generalize (wq.alloc (.cells #[.int .i64 v.1, .int .i64 v.2.1, .int .i64 v.2.2.1.id, .int .i64 v.2.2.1.kind, .string v.2.2.1.key, .int .i64 v.2.2.1.blob, .int .i64 v.2.2.1.other, .int .i64 v.2.2.1.index, .int .i64 v.2.2.1.node, .int .i64 v.2.2.1.size, .int .u32 v.2.2.1.sum, .int .i64 v.2.2.1.k, .int .i64 v.2.2.1.m, .slice nA1 v.2.2.2.length nd1] 53)).alloc (.cells #[.int .i64 u.1, .int .i64 u.2.1, .int .i64 u.2.2.1.id, .int .i64 u.2.2.1.kind, .string u.2.2.1.key, .int .i64 u.2.2.1.blob, .int .i64 u.2.2.1.other, .int .i64 u.2.2.1.index, .int .i64 u.2.2.1.node, .int .i64 u.2.2.1.size, .int .u32 u.2.2.1.sum, .int .i64 u.2.2.1.k, .int .i64 u.2.2.1.m, .slice nA2 u.2.2.2.length nd2] 53) = WB at *
            refine (learn_calls (x := v.2.2) hcaB (WalkArith.wf_i64 (by omega)) hla1.out (hn1.below hBB) rfl hnn1 hnb1 hns1).mono ?_
            rintro e w3 ⟨rfl, hU3, nxa', hca'⟩
            rw [R1.out]
            rw [S1.out] at hca'
            have hcb3 := hcbB.upd_other hcaB hU3 (by omega) (by omega) (by omega) (by omega)
            have hat3 := hatB.upd hU3 (fun b off he => by cases he; omega)
            have hU3b := Lib.hid (upd_blk hUb.out hU3 (by omega) (by omega))
            have hB3 : Below w.heap.size w w3 := hBB.trans (hU3.below (by omega) (by omega) hBB.size)
            have hc0 : w3.cell? ⟨wq.heap.size + 1, 0, none⟩ = some (.int .i64 u.1) := (blk_cell hU3b.out 0).trans rfl
            have hat2' : At w3 (some ⟨wq.heap.size + 1, 2, none⟩) (#[.int .i64 u.2.2.1.id, .int .i64 u.2.2.1.kind, .string u.2.2.1.key, .int .i64 u.2.2.1.blob, .int .i64 u.2.2.1.other, .int .i64 u.2.2.1.index, .int .i64 u.2.2.1.node, .int .i64 u.2.2.1.size, .int .u32 u.2.2.1.sum, .int .i64 u.2.2.1.k, .int .i64 u.2.2.1.m, .slice nA2 u.2.2.2.length nd2].toList) := at_blk2 hU3b.out
            have hz3 := hU3.size
            clear hVb hcaB hcbB hatB hat hat1 hat2 hca hcb hUb
            go_wp2_with (first
              | (refine load_atG (by rfl) 27 (.tmp 64) rfl rfl hat2' Try.underlying27 rfl (by kernel_rfl) ?_)
              | (go_at_call 10; refine (learn_calls (x := u.2.2) hcb3 (WalkArith.wf_i64 (by omega)) hla2.out (hn2.below hB3) rfl hnn2 hnb2 hns2).mono ?_; rintro e w4 ⟨rfl, hU4, nxb', hcb'⟩; rw [R2.out]; rw [S2.out] at hcb'))
            have hca4 := hca'.upd_other hcb3 hU4 (by omega) (by omega) (by omega) (by omega)
            have hz4 := hU4.size
            exact ⟨⟨i + 1, by omega, by go_num, ⟨_, hca4⟩, ⟨_, hcb'⟩, hat3.upd hU4 (fun b off he => by cases he; omega), hB3.trans (hU4.below (by omega) (by omega) hB3.size), by omega⟩, by simp [intOf]; omega⟩
          · obtain rfl : i = V'.length := by omega
            have e1 : V'.take V'.length = V' := List.take_length
            have e2 : V'.reverse.take V'.length = V'.reverse := by
              have := List.take_length (l := V'.reverse)
              rwa [List.length_reverse] at this
            rw [e1] at hca
            rw [e2] at hcb
            have hnx := hca.next_same hcb (fun s => (look_rev hap s).symm)
            subst hnx
            have hpos := hca.pos
            have hl1 := Lib.hid (by simp [asc]; omega : (asc V').length < 1000000)
            have hl2 := Lib.hid (by simp [asc]; omega : (asc V'.reverse).length < 1000000)
            have hrl := Lib.hid (run_look (look_rev hap))
            have hrn := Lib.hid (run_len_le (asc V') (99 : Int).toNat (max 1 1))
            have tk1 : True := trivial
            have tk2 : True := trivial
            have tk3 : True := trivial
            clear e1 e2 hat
            go_wp2_with (first
              | (go_at_call 13; clear tk1; refine (next_calls hca.at').mono ?_; rintro e w' ⟨rfl, rfl⟩)
              | (go_at_call 13; clear tk2; refine (next_calls hcb.at').mono ?_; rintro e w' ⟨rfl, rfl⟩)
              | (go_at_call 13; refine (next_calls hca.at').mono ?_; rintro e w' ⟨rfl, rfl⟩)
              | (go_at_call 14; clear tk3; refine (from_calls hca.at' hl1.out (by decide) (by decide)).mono ?_; rintro e w5 ⟨A6, n6, d6, vs6, rfl, hn6, ho6, hv6, hb6⟩; have HN6 := Lib.hid hn6; clear hn6)
              | (go_at_call 14; refine (from_calls (hcb.below hb6).at' hl2.out (by decide) (by decide)).mono ?_; rintro e w6 ⟨A7, n7, d7, vs7, rfl, hn7, ho7, hv7, hb7⟩; rw [hrl.out] at hn7 hv7; obtain rfl : n7 = n6 := hn7.trans HN6.out.symm; clear hn7; have HE := Lib.hid (eqf_calls (a := d6) (b := d7) ((own_atN ho6).below hb7) (own_atN ho7) (Cmds.below hb7 _ _ hv6) hv7 HN6.out (by have := hrn.out; have : (99 : Int).toNat = 99 := rfl; omega)))
              | (go_at_call 18; refine HE.out.mono ?_; rintro e w7 ⟨rfl, hb8⟩))
            go_ret
            have z6 := hb6.size
            have z7 := hb7.size
            exact ⟨rfl, ((hBq.trans (hb6.mono hBq.size)).trans (hb7.mono (Nat.le_trans hBq.size z6))).trans (hb8.mono (Nat.le_trans hBq.size (Nat.le_trans z6 z7)))⟩

end Go.Proofs.Ytlcchpjficbgmaa
