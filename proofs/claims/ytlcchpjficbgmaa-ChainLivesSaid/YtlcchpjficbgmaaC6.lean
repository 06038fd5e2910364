/- Chains: chain.From. -/
import Derived.Test.YtlcchpjficbgmaaC5
namespace Go.Proofs.Ytlcchpjficbgmaa
open Go.RowKit Go.Maps
set_option linter.unusedVariables false
set_option linter.unusedSimpArgs false

/-- A command's cells. -/
def cmc (c : Cm) (v : Value) : List Value := (#[.int .i64 c.id, .int .i64 c.kind, .string c.key, .int .i64 c.blob, .int .i64 c.other, .int .i64 c.index, .int .i64 c.node, .int .i64 c.size, .int .u32 c.sum, .int .i64 c.k, .int .i64 c.m, v]).toList

/-- Cells that read as commands, whose nodes lie in rows of their own. -/
def Cmds (w : World) : List Value → List Cd → Prop
  | vs, [] => vs = []
  | vs, x :: L => ∃ A d B rest, vs = cmc x.1 (.slice A x.2.length d) ++ rest ∧ w.ownsRow B 3 1 (.slice A x.2.length d) x.2.length (ints x.2) ∧ x.2.length * 8 ≤ 140737488351232 ∧ Cmds w rest L
theorem Cmds.snoc {w : World} {x : Cd} {A : Option Addr} {d B : Nat} (ho : w.ownsRow B 3 1 (.slice A x.2.length d) x.2.length (ints x.2)) (hb : x.2.length * 8 ≤ 140737488351232) :
    ∀ (L : List Cd) (vs : List Value), Cmds w vs L → Cmds w (vs ++ cmc x.1 (.slice A x.2.length d)) (L ++ [x])
  | [], vs, h => by
    cases h
    exact ⟨A, d, B, [], by simp, ho, hb, rfl⟩
  | y :: L, vs, h => by
    obtain ⟨A', d', B', rest, rfl, h1, h2, h3⟩ := h
    exact ⟨A', d', B', rest ++ cmc x.1 (.slice A x.2.length d), by rw [List.append_assoc], h1, h2, Cmds.snoc ho hb L rest h3⟩
theorem Cmds.grown {w w' : World} {v : Value} {n B : Nat} {xs : List Value} (hr : w.ownsRow B 27 12 v n xs) (hg : w.grownBy w' v.ownBlock) :
    ∀ (L : List Cd) (vs : List Value), Cmds w vs L → Cmds w' vs L
  | [], vs, h => h
  | y :: L, vs, h => by
    obtain ⟨A', d', B', rest, rfl, h1, h2, h3⟩ := h
    exact ⟨A', d', B', rest, rfl, own_grown h1 hg (own_ne hr h1 (by decide)), h2, Cmds.grown hr hg L rest h3⟩
theorem Cmds.below {w w' : World} (hb : Below w.heap.size w w') : ∀ (L : List Cd) (vs : List Value), Cmds w vs L → Cmds w' vs L
  | [], vs, h => h
  | y :: L, vs, h => by
    obtain ⟨A', d', B', rest, rfl, h1, h2, h3⟩ := h
    exact ⟨A', d', B', rest, rfl, own_below h1 hb, h2, Cmds.below hb L rest h3⟩
theorem Cmds.length {w : World} : ∀ (L : List Cd) (vs : List Value), Cmds w vs L → vs.length = L.length * 12
  | [], vs, h => by cases h; rfl
  | y :: L, vs, h => by
    obtain ⟨A', d', B', rest, rfl, h1, h2, h3⟩ := h
    have := Cmds.length L rest h3
    simp [cmc]; omega

/-- The commands from a slot on, k at most. -/
def runL (S : List (Int × Cd)) : Nat → Int → List Cd
  | 0, _ => []
  | k + 1, n => match look S n with
    | none => []
    | some x => x :: runL S k (n + 1)

theorem look_filter {S : List (Int × Cd)} {i j : Int} (h : j ≠ i) : look (S.filter fun e => !(e.1 == i)) j = look S j := by
  unfold look
  congr 1
  rw [List.find?_filter]
  congr 1
  funext e
  by_cases hj : e.1 = j
  · have : ¬ e.1 = i := fun h' => h (hj.symm.trans h')
    simp [hj, h]
  · simp [hj]
theorem length_lt_of_mem {α : Type} {p : α → Bool} : ∀ {l : List α} {e : α}, e ∈ l → p e = false → (l.filter p).length < l.length
  | [], e, h, _ => by cases h
  | y :: l, e, h, hp => by
    rcases List.mem_cons.1 h with rfl | h
    · rw [List.filter_cons_of_neg (by simp [hp])]
      have := List.length_filter_le p l
      simp; omega
    · have := length_lt_of_mem h hp
      rw [List.filter_cons]
      split <;> simp only [List.length_cons] <;> omega
/-- So many slots one behind the other want so many entries. -/
theorem run_le : ∀ (j : Nat) (S : List (Int × Cd)) (n : Int), (∀ t : Nat, t < j → look S (n + t) ≠ none) → j ≤ S.length
  | 0, S, n, _ => Nat.zero_le _
  | j + 1, S, n, h => by
    have h1 := run_le j (S.filter fun e => !(e.1 == n + j)) n (fun t ht => by
      rw [look_filter (by omega)]; exact h t (by omega))
    obtain ⟨e, he, he1⟩ := look_some (h j (by omega))
    have h2 := length_lt_of_mem (p := fun e => !(e.1 == n + j)) he (by simp [he1])
    omega

theorem cminfo : (Try.prog.info? 27).map (fun i => (i.zero, i.size, i.bytes)) = some (some (.agg #[.int .i64 cm0.id, .int .i64 cm0.kind, .string cm0.key, .int .i64 cm0.blob, .int .i64 cm0.other, .int .i64 cm0.index, .int .i64 cm0.node, .int .i64 cm0.size, .int .u32 cm0.sum, .int .i64 cm0.k, .int .i64 cm0.m, .slice none 0 0]), 12, 120) := by kernel_rfl

/-- append(own, command) -/
theorem app_cmd {w : World} {ops : Array Oper} {rest : List Oper} {o : Oper} {a : Act} {Q : Exit → Act → World → Prop}
    (hg : o.guard = none) (s x : Operand) (hop : o.op = Op.call { callee := Callee.builtin Builtin.append, args := #[s, x], argTypes := #[38, 38] })
    (base : Nat) {v : Value} {n : Nat} {xs : List Value} (hs : a.eval s = v) (hown : w.ownsRow base 27 12 v n xs)
    {A : Option Addr} {c : Nat} (hx : a.eval x = .slice A 1 c) {news : List Value} (hl : news.length = 12) (hA : At w A news) (h1 : ∀ u ∈ news, u.oneCell' = true)
    (hnil : A = none → c = 0) (hbytes : (n + 1) * 120 ≤ 140737488355328) (hbase : base ≤ w.heap.size)
    (hK : ∀ A' c' w', w'.ownsRow base 27 12 (.slice A' (n + 1) c') (n + 1) (xs ++ news) → Below base w w' → w.grownBy w' v.ownBlock ∧ ((Value.slice A' (n + 1) c').ownBlock = v.ownBlock ∨ (Value.slice A' (n + 1) c').ownBlock = some w.heap.size) → n + 1 ≤ c' →
      wpList Try.prog ops Q rest (a.put o.dst (.slice A' (n + 1) c')) w') :
    wpList Try.prog ops Q (o :: rest) a w := by
  obtain ⟨i, hi, hz0, hz1, hz2⟩ := info_parts cminfo
  exact wpList_plain hg fun _ hK' => wp_app w s x 38 hop base 27 i (.agg #[.int .i64 cm0.id, .int .i64 cm0.kind, .string cm0.key, .int .i64 cm0.blob, .int .i64 cm0.other, .int .i64 cm0.index, .int .i64 cm0.node, .int .i64 cm0.size, .int .u32 cm0.sum, .int .i64 cm0.k, .int .i64 cm0.m, .slice none 0 0]) 12 120 Try.underlying38 hi hz0 hz1 hz2 rfl (by decide) v n xs hs hown A 1 c hx news (by simpa using hl) hA h1 hnil
    (by unfold maxLen; omega) hbytes hbase fun A' c' w' h1 h2 h3 h4 => hK' _ _ (hK A' c' w' h1 h2 h3 h4)

theorem ChainAt.bound {w : World} {p m : Nat} {S : List (Int × Cd)} {nx i : Int} {x : Cd} (h : ChainAt w p m S nx) (hl : look S i = some x) : x.2.length * 8 ≤ 140737488351232 ∧ 1 ≤ i ∧ i ≤ 1152921504606846976 := by
  obtain ⟨f, h1, h2⟩ := h.map
  have := h2 i
  rw [hl] at this
  obtain ⟨v, _, n, _, ⟨A, c, _, _, _, _, hb⟩, _⟩ := this
  obtain ⟨e, he, rfl⟩ := look_some (by rw [hl]; simp : look S i ≠ none)
  exact ⟨hb, h.keys e he⟩

/-- A From answers these commands, in memory of its own. -/
def RetF (w : World) (L : List Cd) (e : Ending) (w' : World) : Prop :=
  ∃ A n d vs, e = .returned (.slice A n d) ∧ n = L.length ∧ w'.ownsRow w.heap.size 27 12 (.slice A n d) n vs ∧ Cmds w' vs L ∧ Below w.heap.size w w'

/-- What the loop of From keeps. -/
def FromLoop (w : World) (p m : Nat) (S : List (Int × Cd)) (nx : Int) (k : Nat) (n0 : Int) (g : Nat) (s7 s8 : Value) (wr : World) : Prop :=
  ∃ (j : Nat) (L : List Cd) (A : Option Addr) (n d : Nat) (vs : List Value), ChainAt wr p m S nx ∧ g + j = S.length + 1 ∧ s8 = .int .i64 (n0 + j) ∧ s7 = .slice A n d ∧ n = j ∧ runL S k n0 = L ++ runL S (k - j) (n0 + j) ∧
    wr.ownsRow w.heap.size 27 12 (.slice A n d) n vs ∧ (Cmds wr vs L ∧ L.length = j) ∧ Below w.heap.size w wr ∧ ∀ t : Nat, t < j → look S (n0 + t) ≠ none
theorem from_stop {S : List (Int × Cd)} {k : Nat} {n : Int} {j : Nat} {L : List Cd} (h : runL S k n = L ++ runL S (k - j) (n + j)) (hk : j < k) (hl : look S (n + j) = none) : runL S k n = L := by
  rw [h]
  obtain ⟨q, hq⟩ : ∃ q, k - j = q + 1 := ⟨k - j - 1, by omega⟩
  rw [hq, runL, hl]
  simp
theorem from_more {S : List (Int × Cd)} {k : Nat} {n : Int} {j : Nat} {L : List Cd} {x : Cd} (h : runL S k n = L ++ runL S (k - j) (n + j)) (hk : j < k) (hl : look S (n + j) = some x) :
    runL S k n = (L ++ [x]) ++ runL S (k - (j + 1)) (n + (j + 1 : Nat)) := by
  rw [h]
  obtain ⟨q, hq⟩ : ∃ q, k - j = q + 1 := ⟨k - j - 1, by omega⟩
  have e : n + (j : Int) + 1 = n + ((j + 1 : Nat) : Int) := by omega
  rw [hq, runL, hl, e, show k - (j + 1) = q by omega]
  simp
theorem wf_int {i : Int} (h : (Lit.int .i64 i).wf = true) : -9223372036854775808 ≤ i ∧ i ≤ 9223372036854775807 := by
  have : (decide (IntKind.i64.min ≤ i) && decide (i ≤ IntKind.i64.max)) = true := h
  simp at this
  exact this
theorem ChainAt.next_wf {w : World} {p m : Nat} {S : List (Int × Cd)} {nx n0 : Int} {j : Nat} (h : ChainAt w p m S nx) (hn : 1 ≤ n0 ∧ n0 ≤ 9223372036854775807) (hall : ∀ t : Nat, t < j → look S (n0 + t) ≠ none) :
    1 ≤ n0 + (j : Int) ∧ n0 + (j : Int) ≤ 9223372036854775807 := by
  rcases Nat.eq_zero_or_pos j with h0 | h0
  · subst h0; simpa using hn
  · obtain ⟨e, he, h1⟩ := look_some (hall (j - 1) (by omega))
    have := (h.keys e he).2
    omega
theorem at_new2 (w : World) (o : Obj) (cs : Array Value) (e : TypeId) (fr : Nat × Nat) : At ((w.alloc o).alloc (.cells cs e fr)) (some ⟨w.heap.size + 1, 0, none⟩) cs.toList := by
  have := at_new (w.alloc o) cs e fr
  rwa [show (w.alloc o).heap.size = w.heap.size + 1 by simp] at this
theorem cmc_one (c : Cm) (A : Option Addr) (n d : Nat) : ∀ u ∈ cmc c (.slice A n d), u.oneCell' = true := by
  intro u hu
  simp [cmc] at hu
  rcases hu with rfl | rfl | rfl | rfl | rfl | rfl | rfl | rfl | rfl | rfl | rfl | rfl <;> rfl

set_option maxHeartbeats 1000000 in
set_option maxRecDepth 100000 in
theorem from_lo {w : World} {p m : Nat} {S : List (Int × Cd)} {nx slot most : Int} (h : ChainAt w p m S nx) (hS : S.length < 1000000) (h1 : (Lit.int .i64 slot).wf = true) (h2 : (Lit.int .i64 most).wf = true) (hs : slot < 1) :
    Calls Try.prog 14 #[.pointer (some ⟨p, 0, none⟩), .int .i64 slot, .int .i64 most] w (RetF w (runL S most.toNat 1)) := by
  have hnn := Lib.hid (by have := wf_int h1; omega : (1 : Int) ≤ 1 ∧ 1 ≤ (9223372036854775807 : Int))
  go_enter Try.func14, Try.ntmps14
  go_wp2_with fail
  go_loopg [7, 8] (S.length + 1) (fun g s7 s8 wr => FromLoop w p m S nx most.toNat 1 g s7 s8 wr)
  case atStart => exact ⟨0, [], none, 0, 0, [], h, rfl, int_eq (by simp), rfl, rfl, by simp, World.ownsRow_nil _ _ _ _, ⟨rfl, rfl⟩, Below.refl _ _, by intro t ht; omega⟩
  case round =>
    obtain ⟨j, L, A, n, d, vs, hch, hg, rfl, rfl, rfl, hL, ho, hvs, hB, hall⟩ := hrel
    have hnb := hch.next_wf hnn.out hall
    have hwf : (Lit.int .i64 (1 + (n : Int))).wf = true := WalkArith.wf_i64 (by omega)
    have hnS := run_le n S 1 hall
    have hA := Lib.hid hall
    clear hall
    by_cases hlt : (n : Int) < most
    · cases hl : look S (1 + n) with
      | none =>
        have HF := Lib.hid (from_stop (k := most.toNat) (n := 1) (j := n) hL (by omega) hl)
        have HX := Lib.hid hl
        clear hL hl
        go_wp2_with (go_at_call 11; refine (get_none hch hwf HX.out).mono ?_; rintro e w3 ⟨A1, d1, rfl, ho1, hb3⟩; unfold cmv)
        go_ret
        rw [HF.out]
        have hbb : Below wr.heap.size wr (w3.alloc (.cells #[.int .i64 cm0.id, .int .i64 cm0.kind, .string cm0.key, .int .i64 cm0.blob, .int .i64 cm0.other, .int .i64 cm0.index, .int .i64 cm0.node, .int .i64 cm0.size, .int .u32 cm0.sum, .int .i64 cm0.k, .int .i64 cm0.m, .slice A1 0 d1] 27)) := hb3.alloc hb3.size _
        exact ⟨A, n, d, vs, rfl, hvs.2.symm, own_below ho hbb, Cmds.below hbb _ _ hvs.1, hB.trans (hbb.mono hB.size)⟩
      | some x =>
        have HX := Lib.hid hl
        have HL := Lib.hid (from_more (k := most.toNat) (n := 1) (j := n) hL (by omega) hl)
        have hbd := (hch.bound hl).1
        have hle := (hch.bound hl).2.2
        clear hL hl
        obtain ⟨c, l⟩ := x
        go_wp2_with (first
          | (go_at_call 11; refine (get_some hch hwf HX.out).mono ?_; rintro e w3 ⟨A1, d1, rfl, ho1, hb3⟩; unfold cmv; have hz3 := hb3.size; have hzB := hB.size)
          | (at_builtin; refine app_cmd rfl (.tmp 27) (.tmp 29) rfl w.heap.size rfl (own_below ho ((hb3.alloc hb3.size _).alloc (by simp; omega) _)) rfl (news := cmc c (.slice A1 l.length d1)) rfl (by exact at_new2 w3 _ #[.int .i64 c.id, .int .i64 c.kind, .string c.key, .int .i64 c.blob, .int .i64 c.other, .int .i64 c.index, .int .i64 c.node, .int .i64 c.size, .int .u32 c.sum, .int .i64 c.k, .int .i64 c.m, .slice A1 l.length d1] _ _) (cmc_one _ _ _ _) (by simp) (by omega) (by simp; omega) ?_; intro A' c' w4 ho4 hb4 hg4 hc4))
        have hbb : Below wr.heap.size wr ((w3.alloc (.cells #[.int .i64 c.id, .int .i64 c.kind, .string c.key, .int .i64 c.blob, .int .i64 c.other, .int .i64 c.index, .int .i64 c.node, .int .i64 c.size, .int .u32 c.sum, .int .i64 c.k, .int .i64 c.m, .slice A1 l.length d1] 27)).alloc (.cells #[.int .i64 c.id, .int .i64 c.kind, .string c.key, .int .i64 c.blob, .int .i64 c.other, .int .i64 c.index, .int .i64 c.node, .int .i64 c.size, .int .u32 c.sum, .int .i64 c.k, .int .i64 c.m, .slice A1 l.length d1] 27)) := (hb3.alloc hb3.size _).alloc (by simp; omega) _
        have how := own_below ho hbb
        have hmid : Below w3.heap.size w3 ((w3.alloc (.cells #[.int .i64 c.id, .int .i64 c.kind, .string c.key, .int .i64 c.blob, .int .i64 c.other, .int .i64 c.index, .int .i64 c.node, .int .i64 c.size, .int .u32 c.sum, .int .i64 c.k, .int .i64 c.m, .slice A1 l.length d1] 27)).alloc (.cells #[.int .i64 c.id, .int .i64 c.kind, .string c.key, .int .i64 c.blob, .int .i64 c.other, .int .i64 c.index, .int .i64 c.node, .int .i64 c.size, .int .u32 c.sum, .int .i64 c.k, .int .i64 c.m, .slice A1 l.length d1] 27)) := below2 _ _ _
        have ho1w := own_below ho1 hmid
        have hvw := Cmds.grown how hg4.1 _ _ (Cmds.below hbb _ _ hvs.1)
        have ho1x := own_grown ho1w hg4.1 (own_ne how ho1w (by decide))
        have hwx : Below w4.heap.size w4 w4 := Below.refl _ _
        have hBB := (hB.trans (hbb.mono hB.size)).trans hb4
        go_roundg (gk - 1)
        case measure => omega
        case rel =>
          refine ⟨n + 1, L ++ [(c, l)], A', n + 1, c', _, h.below hBB, by omega, int_eq (by omega), rfl, rfl, HL.out, ho4, ⟨Cmds.snoc (x := (c, l)) ho1x hbd _ _ hvw, by simp [hvs.2]⟩, hBB, ?_⟩
          · intro t ht
            by_cases htn : t < n
            · exact hA.out t htn
            · obtain rfl : t = n := by omega
              rw [HX.out]; simp
    · have HF := Lib.hid (by rw [hL, show most.toNat - n = 0 by omega]; simp [runL] : runL S most.toNat 1 = L)
      clear hL
      go_wp2_with fail
      go_ret
      rw [HF.out]
      exact ⟨A, n, d, vs, rfl, hvs.2.symm, ho, hvs.1, hB⟩
set_option maxHeartbeats 1000000 in
set_option maxRecDepth 100000 in
theorem from_hi {w : World} {p m : Nat} {S : List (Int × Cd)} {nx slot most : Int} (h : ChainAt w p m S nx) (hS : S.length < 1000000) (h1 : (Lit.int .i64 slot).wf = true) (h2 : (Lit.int .i64 most).wf = true) (hs : 1 ≤ slot) :
    Calls Try.prog 14 #[.pointer (some ⟨p, 0, none⟩), .int .i64 slot, .int .i64 most] w (RetF w (runL S most.toNat slot)) := by
  have hnn := Lib.hid (by have := wf_int h1; omega : (1 : Int) ≤ slot ∧ slot ≤ (9223372036854775807 : Int))
  go_enter Try.func14, Try.ntmps14
  go_wp2_with fail
  go_loopg [7, 8] (S.length + 1) (fun g s7 s8 wr => FromLoop w p m S nx most.toNat slot g s7 s8 wr)
  case atStart => exact ⟨0, [], none, 0, 0, [], h, rfl, int_eq (by simp), rfl, rfl, by simp, World.ownsRow_nil _ _ _ _, ⟨rfl, rfl⟩, Below.refl _ _, by intro t ht; omega⟩
  case round =>
    obtain ⟨j, L, A, n, d, vs, hch, hg, rfl, rfl, rfl, hL, ho, hvs, hB, hall⟩ := hrel
    have hnb := hch.next_wf hnn.out hall
    have hwf : (Lit.int .i64 (slot + (n : Int))).wf = true := WalkArith.wf_i64 (by omega)
    have hnS := run_le n S slot hall
    have hA := Lib.hid hall
    clear hall
    by_cases hlt : (n : Int) < most
    · cases hl : look S (slot + n) with
      | none =>
        have HF := Lib.hid (from_stop (k := most.toNat) (n := slot) (j := n) hL (by omega) hl)
        have HX := Lib.hid hl
        clear hL hl
        go_wp2_with (go_at_call 11; refine (get_none hch hwf HX.out).mono ?_; rintro e w3 ⟨A1, d1, rfl, ho1, hb3⟩; unfold cmv)
        go_ret
        rw [HF.out]
        have hbb : Below wr.heap.size wr (w3.alloc (.cells #[.int .i64 cm0.id, .int .i64 cm0.kind, .string cm0.key, .int .i64 cm0.blob, .int .i64 cm0.other, .int .i64 cm0.index, .int .i64 cm0.node, .int .i64 cm0.size, .int .u32 cm0.sum, .int .i64 cm0.k, .int .i64 cm0.m, .slice A1 0 d1] 27)) := hb3.alloc hb3.size _
        exact ⟨A, n, d, vs, rfl, hvs.2.symm, own_below ho hbb, Cmds.below hbb _ _ hvs.1, hB.trans (hbb.mono hB.size)⟩
      | some x =>
        have HX := Lib.hid hl
        have HL := Lib.hid (from_more (k := most.toNat) (n := slot) (j := n) hL (by omega) hl)
        have hbd := (hch.bound hl).1
        have hle := (hch.bound hl).2.2
        clear hL hl
        obtain ⟨c, l⟩ := x
        go_wp2_with (first
          | (go_at_call 11; refine (get_some hch hwf HX.out).mono ?_; rintro e w3 ⟨A1, d1, rfl, ho1, hb3⟩; unfold cmv; have hz3 := hb3.size; have hzB := hB.size)
          | (at_builtin; refine app_cmd rfl (.tmp 27) (.tmp 29) rfl w.heap.size rfl (own_below ho ((hb3.alloc hb3.size _).alloc (by simp; omega) _)) rfl (news := cmc c (.slice A1 l.length d1)) rfl (by exact at_new2 w3 _ #[.int .i64 c.id, .int .i64 c.kind, .string c.key, .int .i64 c.blob, .int .i64 c.other, .int .i64 c.index, .int .i64 c.node, .int .i64 c.size, .int .u32 c.sum, .int .i64 c.k, .int .i64 c.m, .slice A1 l.length d1] _ _) (cmc_one _ _ _ _) (by simp) (by omega) (by simp; omega) ?_; intro A' c' w4 ho4 hb4 hg4 hc4))
        have hbb : Below wr.heap.size wr ((w3.alloc (.cells #[.int .i64 c.id, .int .i64 c.kind, .string c.key, .int .i64 c.blob, .int .i64 c.other, .int .i64 c.index, .int .i64 c.node, .int .i64 c.size, .int .u32 c.sum, .int .i64 c.k, .int .i64 c.m, .slice A1 l.length d1] 27)).alloc (.cells #[.int .i64 c.id, .int .i64 c.kind, .string c.key, .int .i64 c.blob, .int .i64 c.other, .int .i64 c.index, .int .i64 c.node, .int .i64 c.size, .int .u32 c.sum, .int .i64 c.k, .int .i64 c.m, .slice A1 l.length d1] 27)) := (hb3.alloc hb3.size _).alloc (by simp; omega) _
        have how := own_below ho hbb
        have hmid : Below w3.heap.size w3 ((w3.alloc (.cells #[.int .i64 c.id, .int .i64 c.kind, .string c.key, .int .i64 c.blob, .int .i64 c.other, .int .i64 c.index, .int .i64 c.node, .int .i64 c.size, .int .u32 c.sum, .int .i64 c.k, .int .i64 c.m, .slice A1 l.length d1] 27)).alloc (.cells #[.int .i64 c.id, .int .i64 c.kind, .string c.key, .int .i64 c.blob, .int .i64 c.other, .int .i64 c.index, .int .i64 c.node, .int .i64 c.size, .int .u32 c.sum, .int .i64 c.k, .int .i64 c.m, .slice A1 l.length d1] 27)) := below2 _ _ _
        have ho1w := own_below ho1 hmid
        have hvw := Cmds.grown how hg4.1 _ _ (Cmds.below hbb _ _ hvs.1)
        have ho1x := own_grown ho1w hg4.1 (own_ne how ho1w (by decide))
        have hwx : Below w4.heap.size w4 w4 := Below.refl _ _
        have hBB := (hB.trans (hbb.mono hB.size)).trans hb4
        go_roundg (gk - 1)
        case measure => omega
        case rel =>
          refine ⟨n + 1, L ++ [(c, l)], A', n + 1, c', _, h.below hBB, by omega, int_eq (by omega), rfl, rfl, HL.out, ho4, ⟨Cmds.snoc (x := (c, l)) ho1x hbd _ _ hvw, by simp [hvs.2]⟩, hBB, ?_⟩
          · intro t ht
            by_cases htn : t < n
            · exact hA.out t htn
            · obtain rfl : t = n := by omega
              rw [HX.out]; simp
    · have HF := Lib.hid (by rw [hL, show most.toNat - n = 0 by omega]; simp [runL] : runL S most.toNat slot = L)
      clear hL
      go_wp2_with fail
      go_ret
      rw [HF.out]
      exact ⟨A, n, d, vs, rfl, hvs.2.symm, ho, hvs.1, hB⟩
theorem from_calls {w : World} {p m : Nat} {S : List (Int × Cd)} {nx slot most : Int} (h : ChainAt w p m S nx) (hS : S.length < 1000000) (h1 : (Lit.int .i64 slot).wf = true) (h2 : (Lit.int .i64 most).wf = true) :
    Calls Try.prog 14 #[.pointer (some ⟨p, 0, none⟩), .int .i64 slot, .int .i64 most] w (RetF w (runL S most.toNat (max slot 1))) := by
  by_cases hs : slot < 1
  · rw [show max slot 1 = 1 by omega]; exact from_lo h hS h1 h2 hs
  · rw [show max slot 1 = slot by omega]; exact from_hi h hS h1 h2 (by omega)


end Go.Proofs.Ytlcchpjficbgmaa
