/- The document's chain: Learn. -/
import Derived.Test.YtlcchpjficbgmaaC17
import Derived.Test.YtlcchpjficbgmaaC16
namespace Go.Proofs.Ytlcchpjficbgmaa
open Go.RowKit Go.Maps
set_option linter.unusedVariables false
set_option linter.unusedSimpArgs false

/-- All blocks but a chain's of the document are as they were. -/
def KeepT (w w' : World) : Prop := ∀ (k : Nat) (o : Obj), w.heap[k]? = some o → (∀ cs fr, o ≠ .cells cs 51 fr) → (∀ cs fr, o ≠ .cells cs 63 fr) → w'.heap[k]? = some o
theorem KeepT.of_below {w w' : World} (h : Below w.heap.size w w') : KeepT w w' := fun k o hk _ _ => below_blk hk h
theorem KeepT.trans {a b c : World} (h : KeepT a b) (k : KeepT b c) : KeepT a c := fun i o hi h1 h2 => k i o (h i o hi h1 h2) h1 h2
theorem Chain.keepT {w w' : World} {p m : Nat} {S : List (Int × Cd)} {nx : Int} (h : Chain w p m S nx) (hk : KeepT w w') : Chain w' p m S nx := by
  obtain ⟨f, ⟨D, ⟨es, clock, hmb, _⟩, _⟩, _⟩ := h.at'.map
  refine ⟨h.at'.keep ?_ ?_ ?_, h.pos, h.all, h.next, h.sums⟩
  · rw [h.at'.head]
    exact hk _ _ h.at'.head (by intro cs fr he; injection he with _ h2 _; exact absurd h2 (by decide)) (by intro cs fr he; injection he with _ h2 _; exact absurd h2 (by decide))
  · rw [hmb]
    exact hk _ _ hmb (by intro cs fr he; cases he) (by intro cs fr he; cases he)
  · intro k cs fr hc
    rw [hc]
    exact hk _ _ hc (by intro cs fr he; injection he with _ h2 _; exact absurd h2 (by decide)) (by intro cs fr he; injection he with _ h2 _; exact absurd h2 (by decide))

/-- The document's Learn answers r, and leaves its chain with S. -/
def RetRL (w : World) (B q : Nat) (S : List (Int × Cd)) (r : Int) (e : Ending) (w' : World) : Prop :=
  e = .returned (.int .i64 r) ∧ KeepT w w' ∧ Below B w w' ∧ RChain w' B q S

theorem RChain.lt {w : World} {B q : Nat} {S : List (Int × Cd)} (h : RChain w B q S) : q < w.heap.size ∧ B ≤ q := by
  obtain ⟨A, n, d, vs, h1, h2, h3, h4, h5⟩ := h
  exact ⟨(Array.getElem?_eq_some_iff.1 h1).1, h5⟩

set_option maxHeartbeats 1000000 in
set_option maxRecDepth 100000 in
theorem rlearn_old {w : World} {B q : Nat} {S : List (Int × Cd)} {i : Int} {x : Cd} {A : Option Addr} {n a : Nat} (h : RChain w B q S) (hS : S.length < 1000000)
    (hA : At w A (ints x.2)) (hn : n = x.2.length) (hmax : x.2.length * 8 ≤ 140737488351232) (ho : (i < 1 ∨ 1152921504606846976 < i) ∨ look S i ≠ none) :
    Calls Try.prog 15 #[.pointer (some ⟨q, 0, none⟩), .int .i64 i, .agg #[.int .i64 x.1.id, .int .i64 x.1.kind, .string x.1.key, .int .i64 x.1.blob, .int .i64 x.1.other, .int .i64 x.1.index, .int .i64 x.1.node, .int .i64 x.1.size, .int .u32 x.1.sum, .int .i64 x.1.k, .int .i64 x.1.m, .slice A n a]] w (RetRL w B q (learnS S i x) (learnR S i x)) := by
  have hlt := h.lt
  by_cases hr : i < 1 ∨ 1152921504606846976 < i
  · have e1 : learnR S i x = 1 := if_pos hr
    have e2 : learnS S i x = S := if_pos hr
    rw [e1, e2]
    have HC := Lib.hid h
    have hr2 : (decide (i < 1) || decide (1152921504606846976 < i)) = true := by simpa using hr
    clear e1 e2 h hr ho
    go_enter Try.func15, Try.ntmps15
    go_wp2_with fail
    all_goals (go_ret; exact ⟨rfl, .of_below (below1 _ _), (below1 _ _).mono (by omega), HC.out.below (below1 _ _)⟩)
  · have h1 : 1 ≤ i := by omega
    have h2 : i ≤ 1152921504606846976 := by omega
    have hl : look S i ≠ none := ho.resolve_left hr
    obtain ⟨y, hl⟩ := Option.ne_none_iff_exists'.1 hl
    have E1 := Lib.hid (by unfold learnR; rw [if_neg hr, hl] : learnR S i x = if sameB x y then 0 else 130)
    have e2 : learnS S i x = S := by unfold learnS; rw [if_neg hr, hl]
    rw [e2]
    have HC := Lib.hid h
    have HL := Lib.hid hl
    obtain ⟨xc, xl⟩ := x
    obtain ⟨yc, yl⟩ := y
    subst hn
    clear hr e2 ho hl h
    have tk1 : True := trivial
    cases hsb : sameB (xc, xl) (yc, yl) with
    | true =>
      have E2 := Lib.hid (by rw [E1.out, hsb]; rfl : learnR S i (xc, xl) = 0)
      have HSB := Lib.hid hsb
      clear E1 hsb
      go_enter Try.func15, Try.ntmps15
      go_wp2_with (first
        | (go_at_call 17; refine (rget_calls (HC.out.below (below1 _ _)) hS).mono ?_; rw [HL.out]; rintro e w3 ⟨A1, d1, rfl, ho1, hb3⟩; unfold cmv; have hx := Lib.hid (below_blk (heap_alloc_new _ _) hb3))
        | (refine load_blk (by rfl) 27 (.tmp 5) rfl w.heap.size rfl 27 #[.int .i64 xc.id, .int .i64 xc.kind, .string xc.key, .int .i64 xc.blob, .int .i64 xc.other, .int .i64 xc.index, .int .i64 xc.node, .int .i64 xc.size, .int .u32 xc.sum, .int .i64 xc.k, .int .i64 xc.m, .slice A xl.length a] (0, 0) _ (below_blk hx.out (below1 _ _)) Try.underlying27 rfl (by kernel_rfl) ?_)
        | (go_at_call 26; refine (rsame_calls (x := (xc, xl)) (y := (yc, yl)) (((hA.below (below1 _ _)).below hb3).below (below1 _ _)) ((own_at ho1).below (below1 _ _)) rfl rfl (Nat.le_trans hmax (by decide))).mono ?_; rw [HSB.out]; rintro e w' ⟨rfl, hb⟩))
      go_ret
      have hbb := (below1 w (.cells #[.int .i64 xc.id, .int .i64 xc.kind, .string xc.key, .int .i64 xc.blob, .int .i64 xc.other, .int .i64 xc.index, .int .i64 xc.node, .int .i64 xc.size, .int .u32 xc.sum, .int .i64 xc.k, .int .i64 xc.m, .slice A xl.length a] 27)).trans ((hb3.trans ((below1 w3 (.cells #[.int .i64 yc.id, .int .i64 yc.kind, .string yc.key, .int .i64 yc.blob, .int .i64 yc.other, .int .i64 yc.index, .int .i64 yc.node, .int .i64 yc.size, .int .u32 yc.sum, .int .i64 yc.k, .int .i64 yc.m, .slice A1 yl.length d1] 27)).mono hb3.size)).mono (by simp)) 
      have hbc := hbb.trans (hb.mono (by have := hb3.size; simp at this ⊢; omega))
      exact ⟨by rw [E2.out]; rfl, .of_below hbc, hbc.mono (by omega), HC.out.below hbc⟩
    | false =>
      have E2 := Lib.hid (by rw [E1.out, hsb]; rfl : learnR S i (xc, xl) = 130)
      have HSB := Lib.hid hsb
      clear E1 hsb
      go_enter Try.func15, Try.ntmps15
      go_wp2_with (first
        | (go_at_call 17; refine (rget_calls (HC.out.below (below1 _ _)) hS).mono ?_; rw [HL.out]; rintro e w3 ⟨A1, d1, rfl, ho1, hb3⟩; unfold cmv; have hx := Lib.hid (below_blk (heap_alloc_new _ _) hb3))
        | (refine load_blk (by rfl) 27 (.tmp 5) rfl w.heap.size rfl 27 #[.int .i64 xc.id, .int .i64 xc.kind, .string xc.key, .int .i64 xc.blob, .int .i64 xc.other, .int .i64 xc.index, .int .i64 xc.node, .int .i64 xc.size, .int .u32 xc.sum, .int .i64 xc.k, .int .i64 xc.m, .slice A xl.length a] (0, 0) _ (below_blk hx.out (below1 _ _)) Try.underlying27 rfl (by kernel_rfl) ?_)
        | (go_at_call 26; refine (rsame_calls (x := (xc, xl)) (y := (yc, yl)) (((hA.below (below1 _ _)).below hb3).below (below1 _ _)) ((own_at ho1).below (below1 _ _)) rfl rfl (Nat.le_trans hmax (by decide))).mono ?_; rw [HSB.out]; rintro e w' ⟨rfl, hb⟩))
      go_ret
      have hbb := (below1 w (.cells #[.int .i64 xc.id, .int .i64 xc.kind, .string xc.key, .int .i64 xc.blob, .int .i64 xc.other, .int .i64 xc.index, .int .i64 xc.node, .int .i64 xc.size, .int .u32 xc.sum, .int .i64 xc.k, .int .i64 xc.m, .slice A xl.length a] 27)).trans ((hb3.trans ((below1 w3 (.cells #[.int .i64 yc.id, .int .i64 yc.kind, .string yc.key, .int .i64 yc.blob, .int .i64 yc.other, .int .i64 yc.index, .int .i64 yc.node, .int .i64 yc.size, .int .u32 yc.sum, .int .i64 yc.k, .int .i64 yc.m, .slice A1 yl.length d1] 27)).mono hb3.size)).mono (by simp)) 
      have hbc := hbb.trans (hb.mono (by have := hb3.size; simp at this ⊢; omega))
      exact ⟨by rw [E2.out]; rfl, .of_below hbc, hbc.mono (by omega), HC.out.below hbc⟩

theorem own_set {w : World} {B e sz n q i : Nat} {v u : Value} {xs : List Value} {cs : Array Value} {t : TypeId} {fr : Nat × Nat} (h : w.ownsRow B e sz v n xs) (hq : w.heap[q]? = some (.cells cs t fr)) (ht : t ≠ e) : (w.setCell ⟨q, i, none⟩ u).ownsRow B e sz v n xs := by
  refine h.kept (row := some q) ⟨rfl, rfl, rfl, by simp [World.setCell], fun k hk hne => heap_setCell_other _ _ _ _ (fun hkq => hne (by rw [hkq]))⟩ ?_
  cases hv : v.ownBlock with
  | none => exact .inl rfl
  | some b =>
    refine .inr (fun he => ?_)
    injection he with he
    subst he
    obtain ⟨cs', fr', h3⟩ := own_typed h hv
    rw [hq] at h3
    injection h3 with h3
    injection h3 with _ h4 _
    exact ht h4
theorem lkinfo : (Try.prog.info? 63).map (fun i => (i.zero, i.size, i.bytes)) = some (some (.agg #[.int .i64 0, .int .i64 cm0.id, .int .i64 cm0.kind, .string cm0.key, .int .i64 cm0.blob, .int .i64 cm0.other, .int .i64 cm0.index, .int .i64 cm0.node, .int .i64 cm0.size, .int .u32 cm0.sum, .int .i64 cm0.k, .int .i64 cm0.m, .slice none 0 0]), 13, 128) := by kernel_rfl
/-- append(own, link) -/
theorem wp_app_link {w : World} {o : Oper} {a : Act} {K : Act → World → Prop} {Q : Exit → Act → World → Prop}
    (s x : Operand) (hop : o.op = Op.call { callee := Callee.builtin Builtin.append, args := #[s, x], argTypes := #[49, 49] })
    (base : Nat) {v : Value} {n : Nat} {xs : List Value} (hs : a.eval s = v) (hown : w.ownsRow base 63 13 v n xs)
    {A : Option Addr} {c : Nat} (hx : a.eval x = .slice A 1 c) {news : List Value} (hl : news.length = 13) (hA : At w A news) (h1 : ∀ u ∈ news, u.oneCell' = true)
    (hnil : A = none → c = 0) (hbytes : (n + 1) * 128 ≤ 140737488355328) (hbase : base ≤ w.heap.size)
    (hK : ∀ A' c' w', w'.ownsRow base 63 13 (.slice A' (n + 1) c') (n + 1) (xs ++ news) → Below base w w' → w.grownBy w' v.ownBlock ∧ ((Value.slice A' (n + 1) c').ownBlock = v.ownBlock ∨ (Value.slice A' (n + 1) c').ownBlock = some w.heap.size) → n + 1 ≤ c' →
      K (a.put o.dst (.slice A' (n + 1) c')) w') :
    o.wp Try.prog a w K Q := by
  obtain ⟨i, hi, hz0, hz1, hz2⟩ := info_parts lkinfo
  exact wp_app w s x 49 hop base 63 i _ 13 128 Try.underlying49 hi hz0 hz1 hz2 rfl (by decide) v n xs hs hown A 1 c hx news (by simpa using hl) hA h1 hnil
    (by unfold maxLen; omega) hbytes hbase hK
theorem lkc_one {s : Int} (c : Cm) (A : Option Addr) (n d : Nat) : ∀ u ∈ (#[.int .i64 s, .int .i64 c.id, .int .i64 c.kind, .string c.key, .int .i64 c.blob, .int .i64 c.other, .int .i64 c.index, .int .i64 c.node, .int .i64 c.size, .int .u32 c.sum, .int .i64 c.k, .int .i64 c.m, .slice A n d] : Array Value).toList, u.oneCell' = true := by
  intro u hu
  simp at hu
  rcases hu with rfl | rfl | rfl | rfl | rfl | rfl | rfl | rfl | rfl | rfl | rfl | rfl | rfl <;> rfl
theorem grown_typed {w w' : World} {B e sz n : Nat} {v : Value} {vs : List Value} (h : w.ownsRow B e sz v n vs) (hg : w.grownBy w' v.ownBlock) {k : Nat} {o : Obj} (hk : w.heap[k]? = some o) (ht : ∀ cs fr, o ≠ .cells cs e fr) : w'.heap[k]? = some o := by
  refine (hg.block k (Array.getElem?_eq_some_iff.1 hk).1 ?_).trans hk
  intro hv
  obtain ⟨cs, fr, h3⟩ := own_typed h hv.symm
  rw [hk] at h3
  injection h3 with h3
  exact ht cs fr h3

set_option maxHeartbeats 1000000 in
set_option maxRecDepth 100000 in
theorem rlearn_new {w : World} {B q : Nat} {S : List (Int × Cd)} {i : Int} {x : Cd} {A : Option Addr} {n a : Nat} (h : RChain w B q S) (hS : S.length < 1000000)
    (hA : At w A (ints x.2)) (hn : n = x.2.length) (hnil : A = none → a = 0) (hmax : x.2.length * 8 ≤ 140737488351232) (h1 : 1 ≤ i) (h2 : i ≤ 1152921504606846976) (hl : look S i = none) :
    Calls Try.prog 15 #[.pointer (some ⟨q, 0, none⟩), .int .i64 i, .agg #[.int .i64 x.1.id, .int .i64 x.1.kind, .string x.1.key, .int .i64 x.1.blob, .int .i64 x.1.other, .int .i64 x.1.index, .int .i64 x.1.node, .int .i64 x.1.size, .int .u32 x.1.sum, .int .i64 x.1.k, .int .i64 x.1.m, .slice A n a]] w (RetRL w B q (S ++ [(i, x)]) 0) := by
  have hlt := h.lt
  have HC := Lib.hid h
  have HL := Lib.hid hl
  obtain ⟨c, l⟩ := x
  subst hn
  clear hl h
  go_enter Try.func15, Try.ntmps15
  go_wp2_with (first
    | (go_at_call 17; refine (rget_calls (HC.out.below (below1 _ _)) hS).mono ?_; rw [HL.out]; rintro e w3 ⟨rfl, hb3⟩; unfold cmv; have hx := Lib.hid (below_blk (heap_alloc_new _ _) hb3)))
  have hxb := Lib.hid (below_blk hx.out (below1 _ (.cells #[.int .i64 cm0.id, .int .i64 cm0.kind, .string cm0.key, .int .i64 cm0.blob, .int .i64 cm0.other, .int .i64 cm0.index, .int .i64 cm0.node, .int .i64 cm0.size, .int .u32 cm0.sum, .int .i64 cm0.k, .int .i64 cm0.m, .slice none 0 0] 27)))
  have hbb := (below1 w (.cells #[.int .i64 c.id, .int .i64 c.kind, .string c.key, .int .i64 c.blob, .int .i64 c.other, .int .i64 c.index, .int .i64 c.node, .int .i64 c.size, .int .u32 c.sum, .int .i64 c.k, .int .i64 c.m, .slice A l.length a] 27)).trans ((hb3.trans ((below1 _ (.cells #[.int .i64 cm0.id, .int .i64 cm0.kind, .string cm0.key, .int .i64 cm0.blob, .int .i64 cm0.other, .int .i64 cm0.index, .int .i64 cm0.node, .int .i64 cm0.size, .int .u32 cm0.sum, .int .i64 cm0.k, .int .i64 cm0.m, .slice none 0 0] 27)).mono hb3.size)).mono (by simp))
  have hC4 := Lib.hid (HC.out.below hbb)
  have hA4 := hA.below hbb
  have hz4 : w.heap.size < (w3.alloc (.cells #[.int .i64 cm0.id, .int .i64 cm0.kind, .string cm0.key, .int .i64 cm0.blob, .int .i64 cm0.other, .int .i64 cm0.index, .int .i64 cm0.node, .int .i64 cm0.size, .int .u32 cm0.sum, .int .i64 cm0.k, .int .i64 cm0.m, .slice none 0 0] 27)).heap.size := by have := hb3.size; simp at this ⊢; omega
  generalize w3.alloc (.cells #[.int .i64 cm0.id, .int .i64 cm0.kind, .string cm0.key, .int .i64 cm0.blob, .int .i64 cm0.other, .int .i64 cm0.index, .int .i64 cm0.node, .int .i64 cm0.size, .int .u32 cm0.sum, .int .i64 cm0.k, .int .i64 cm0.m, .slice none 0 0] 27) = W4 at *
  have hbD : Below W4.heap.size W4 W4.drew := belowN 1
  have hxD := Lib.hid (below_blk hxb.out hbD)
  have hCD := Lib.hid (hC4.out.below hbD)
  have hAD := hA4.below hbD
  have hzD : w.heap.size < W4.drew.heap.size := by have := hbD.size; omega
  have hbbD : Below w.heap.size w W4.drew := hbb.trans (hbD.mono (by omega))
  refine wp_region_held_drew (S := fun w' => w.heap.size < w'.heap.size ∧ w'.cell? ⟨w.heap.size, 0, none⟩ = some (.int .i64 c.id) ∧ w'.cell? ⟨w.heap.size, 1, none⟩ = some (.int .i64 c.kind) ∧ w'.cell? ⟨w.heap.size, 2, none⟩ = some (.string c.key) ∧ w'.cell? ⟨w.heap.size, 3, none⟩ = some (.int .i64 c.blob) ∧ w'.cell? ⟨w.heap.size, 4, none⟩ = some (.int .i64 c.other) ∧ w'.cell? ⟨w.heap.size, 5, none⟩ = some (.int .i64 c.index) ∧ w'.cell? ⟨w.heap.size, 6, none⟩ = some (.int .i64 c.node) ∧ w'.cell? ⟨w.heap.size, 7, none⟩ = some (.int .i64 c.size) ∧ w'.cell? ⟨w.heap.size, 8, none⟩ = some (.int .u32 c.sum) ∧ w'.cell? ⟨w.heap.size, 9, none⟩ = some (.int .i64 c.k) ∧ w'.cell? ⟨w.heap.size, 10, none⟩ = some (.int .i64 c.m) ∧ w'.cell? ⟨w.heap.size, 11, none⟩ = some (.slice A l.length a)) (by kernel_rfl) ⟨hzD, cells_of hxD.out⟩ (fun hHeld => ?_)
  clear hbD hxb hC4 hA4 hz4 hbb
  generalize W4.drew = WD at *
  obtain ⟨A0, n0, d0, vs, hq, ho, rfl, hL, hBq⟩ := hCD.out
  have hq0 := blk_cell hq 0
  simp at hq0
  refine wpAnyH_take (i := 0) (v := ?_) rfl (by kernel_rfl) (by kernel_rfl) (by kernel_rfl) (fun _ _ _ h => h) (Or.inl ⟨by rfl, ?_⟩) (by assumption) ?_; rotate_left; (intro w hSw; (try dsimp only at hSw); go_simp; (first | done | (with_reducible rfl))); (try simp only [List.getElem_toArray, List.getElem_cons_succ, List.getElem_cons_zero, Act.put, List.setIfInBounds_toArray, List.set_cons_zero, List.set_cons_succ])
  refine wpAnyH_take (i := 1) (v := ?_) rfl (by kernel_rfl) (by kernel_rfl) (by kernel_rfl) (fun _ _ _ h => h) (Or.inl ⟨by rfl, ?_⟩) (by assumption) ?_; rotate_left; (intro w hSw; (try dsimp only at hSw); go_simp; (first | done | (with_reducible rfl))); (try simp only [List.getElem_toArray, List.getElem_cons_succ, List.getElem_cons_zero, Act.put, List.setIfInBounds_toArray, List.set_cons_zero, List.set_cons_succ])
  refine wpAnyH_take (i := 2) (v := ?_) rfl (by kernel_rfl) (by kernel_rfl) (by kernel_rfl) (fun _ _ _ h => h) (Or.inl ⟨by rfl, ?_⟩) (by assumption) ?_; rotate_left; (intro w hSw; (try dsimp only at hSw); go_simp; (first | done | (with_reducible rfl))); (try simp only [List.getElem_toArray, List.getElem_cons_succ, List.getElem_cons_zero, Act.put, List.setIfInBounds_toArray, List.set_cons_zero, List.set_cons_succ])
  refine wpAnyH_take (i := 3) (v := ?_) rfl (by kernel_rfl) (by kernel_rfl) (by kernel_rfl) (fun _ _ _ h => h) (Or.inl ⟨by rfl, ?_⟩) (by assumption) ?_; rotate_left; (intro w hSw; (try dsimp only at hSw); go_simp; (first | done | (with_reducible rfl))); (try simp only [List.getElem_toArray, List.getElem_cons_succ, List.getElem_cons_zero, Act.put, List.setIfInBounds_toArray, List.set_cons_zero, List.set_cons_succ])
  refine wpAnyH_take (i := 5) (v := ?_) rfl (by kernel_rfl) (by kernel_rfl) (by kernel_rfl) (fun _ _ _ h => h) (Or.inl ⟨by rfl, ?_⟩) (by assumption) ?_; rotate_left; (intro w hSw; (try dsimp only at hSw); go_simp; (first | done | (with_reducible rfl))); (try simp only [List.getElem_toArray, List.getElem_cons_succ, List.getElem_cons_zero, Act.put, List.setIfInBounds_toArray, List.set_cons_zero, List.set_cons_succ])
  refine wpAnyH_take (i := 6) (v := ?_) rfl (by kernel_rfl) (by kernel_rfl) (by kernel_rfl) (fun _ _ _ h => h) (Or.inl ⟨by rfl, ?_⟩) (by assumption) ?_; rotate_left; (intro w hSw; (try dsimp only at hSw); go_simp; (first | done | (with_reducible rfl))); (try simp only [List.getElem_toArray, List.getElem_cons_succ, List.getElem_cons_zero, Act.put, List.setIfInBounds_toArray, List.set_cons_zero, List.set_cons_succ])
  refine wpAnyH_ready (rs := [4, 7]) (by kernel_rfl) (by simp) ?_
  refine AllReadyH.cons rfl (fun K hK => ?_) (AllReadyH.cons rfl (fun K hK => ?_) AllReadyH.nil)
  · go_simp
    go_wp2_with fail
    refine hK.out _ _ ⟨hzD, cells_of hxD.out⟩ (fun hHeld => ?_)
    clear hK K
    (try simp only [List.getElem_toArray, List.getElem_cons_succ, List.getElem_cons_zero, Act.put, List.setIfInBounds_toArray, List.set_cons_zero, List.set_cons_succ])
    refine wpAnyH_ready (rs := [7]) (by kernel_rfl) (by simp) ?_; refine AllReadyH.cons rfl (fun K hK => ?_) AllReadyH.nil
    go_simp
    refine (copy_calls c hAD rfl hnil (Nat.le_trans hmax (by decide))).mono ?_
    rintro e w1 ⟨A1, d1, rfl, hoc, hb1⟩
    unfold cmv
    go_wp2_with fail
    refine hK.out _ _ ⟨by have := hb1.size; omega, cells_of (below_blk hxD.out hb1)⟩ (fun hHeld => ?_)
    clear hK K
    (try simp only [List.getElem_toArray, List.getElem_cons_succ, List.getElem_cons_zero, Act.put, List.setIfInBounds_toArray, List.set_cons_zero, List.set_cons_succ])
    refine wpAnyH_take (i := 8) (v := ?_) rfl (by kernel_rfl) (by kernel_rfl) (by kernel_rfl) (fun _ _ _ h => h) (Or.inl ⟨by rfl, ?_⟩) (by assumption) ?_; rotate_left; (intro w hSw; (try dsimp only at hSw); go_simp; (first | done | (with_reducible rfl))); (try simp only [List.getElem_toArray, List.getElem_cons_succ, List.getElem_cons_zero, Act.put, List.setIfInBounds_toArray, List.set_cons_zero, List.set_cons_succ])
    refine wpAnyH_ready (rs := [9]) (by kernel_rfl) (by simp) ?_; refine AllReadyH.cons rfl (fun K hK => ?_) AllReadyH.nil
    go_simp
    go_wp2_with fail
    refine hK.out _ _ ⟨by have := hb1.size; simp; omega, cells_of (below_blk (below_blk hxD.out hb1) (below1 _ _))⟩ (fun hHeld => ?_)
    clear hK K
    (try simp only [List.getElem_toArray, List.getElem_cons_succ, List.getElem_cons_zero, Act.put, List.setIfInBounds_toArray, List.set_cons_zero, List.set_cons_succ])
    have hb9 : Below WD.heap.size WD (w1.alloc (.cells #[.int .i64 i, .int .i64 c.id, .int .i64 c.kind, .string c.key, .int .i64 c.blob, .int .i64 c.other, .int .i64 c.index, .int .i64 c.node, .int .i64 c.size, .int .u32 c.sum, .int .i64 c.k, .int .i64 c.m, .slice A1 l.length d1] 63)) := hb1.trans ((below1 _ _).mono hb1.size)
    have ho9 := own_below ho hb9
    have hx9 := Lib.hid (below_blk hxD.out hb9)
    have hq9 := Lib.hid (below_blk hq hb9)
    have hbB : Below w.heap.size w (w1.alloc (.cells #[.int .i64 i, .int .i64 c.id, .int .i64 c.kind, .string c.key, .int .i64 c.blob, .int .i64 c.other, .int .i64 c.index, .int .i64 c.node, .int .i64 c.size, .int .u32 c.sum, .int .i64 c.k, .int .i64 c.m, .slice A1 l.length d1] 63)) := hbbD.trans (hb9.mono (by omega))
    have hoc9 := own_below hoc (below1 w1 (.cells #[.int .i64 i, .int .i64 c.id, .int .i64 c.kind, .string c.key, .int .i64 c.blob, .int .i64 c.other, .int .i64 c.index, .int .i64 c.node, .int .i64 c.size, .int .u32 c.sum, .int .i64 c.k, .int .i64 c.m, .slice A1 l.length d1] 63))
    have hn9 := at_new w1 #[.int .i64 i, .int .i64 c.id, .int .i64 c.kind, .string c.key, .int .i64 c.blob, .int .i64 c.other, .int .i64 c.index, .int .i64 c.node, .int .i64 c.size, .int .u32 c.sum, .int .i64 c.k, .int .i64 c.m, .slice A1 l.length d1] 63 (0, 0)
    have hL9 := Links.keep (fun k cs fr hk => hb9.block k (Array.getElem?_eq_some_iff.1 hk).1) _ _ hL
    have hz9 := hb9.size
    refine wpAnyH_ready (rs := [10]) (by kernel_rfl) (by simp) ?_; refine AllReadyH.cons rfl (fun K hK => ?_) AllReadyH.nil
    rw [if_pos (by rfl)]
    refine wp_app_link _ _ rfl B rfl ho9 rfl (news := (#[.int .i64 i, .int .i64 c.id, .int .i64 c.kind, .string c.key, .int .i64 c.blob, .int .i64 c.other, .int .i64 c.index, .int .i64 c.node, .int .i64 c.size, .int .u32 c.sum, .int .i64 c.k, .int .i64 c.m, .slice A1 l.length d1]).toList) rfl hn9 (lkc_one _ _ _ _) (by simp) (by omega) (by omega) ?_
    intro A4 c4 w4 ho4 hb4 hg4 hc4
    generalize w1.alloc (.cells #[.int .i64 i, .int .i64 c.id, .int .i64 c.kind, .string c.key, .int .i64 c.blob, .int .i64 c.other, .int .i64 c.index, .int .i64 c.node, .int .i64 c.size, .int .u32 c.sum, .int .i64 c.k, .int .i64 c.m, .slice A1 l.length d1] 63) = W9 at *
    have hx4 := Lib.hid (grown_typed ho9 hg4.1 hx9.out (by intro cs fr he; injection he with _ h2 _; exact absurd h2 (by decide)))
    have hq4 := Lib.hid (grown_typed ho9 hg4.1 hq9.out (by intro cs fr he; injection he with _ h2 _; exact absurd h2 (by decide)))
    have hz4 := hb4.size
    refine hK.out _ _ ⟨by omega, cells_of hx4.out⟩ (fun hHeld => ?_)
    clear hK K
    (try simp only [List.getElem_toArray, List.getElem_cons_succ, List.getElem_cons_zero, Act.put, List.setIfInBounds_toArray, List.set_cons_zero, List.set_cons_succ])
    refine wpAnyH_take (i := 11) (v := ?_) rfl (by kernel_rfl) (by kernel_rfl) (by kernel_rfl) (fun _ _ _ h => h) (Or.inl ⟨by rfl, ?_⟩) (by assumption) ?_; rotate_left; (intro w hSw; (try dsimp only at hSw); go_simp; (first | done | (with_reducible rfl))); (try simp only [List.getElem_toArray, List.getElem_cons_succ, List.getElem_cons_zero, Act.put, List.setIfInBounds_toArray, List.set_cons_zero, List.set_cons_succ])
    refine wpAnyH_take (i := 12) (v := ?_) rfl (by kernel_rfl) (by kernel_rfl) (by kernel_rfl) (fun _ _ _ h => h) (Or.inl ⟨by rfl, ?_⟩) (by assumption) ?_; rotate_left; (intro w hSw; (try dsimp only at hSw); go_simp; (first | done | (with_reducible rfl))); (try simp only [List.getElem_toArray, List.getElem_cons_succ, List.getElem_cons_zero, Act.put, List.setIfInBounds_toArray, List.set_cons_zero, List.set_cons_succ])
    have hqc := blk_cell hq4.out 0
    have hqf := blk_frozen hq4.out 0
    simp at hqc
    replace hg4 : W9.grownBy w4 (Value.slice A0 S.length d0).ownBlock := hg4.1
    refine wpAnyH_ready (rs := [13]) (by kernel_rfl) (by simp) ?_; refine AllReadyH.cons rfl (fun K hK => ?_) AllReadyH.nil
    go_simp
    go_wp2_with fail
    have hwq : w.heap.size ≠ q := by omega
    refine hK.out _ _ ⟨by simp [World.setCell]; omega, cells_of ((heap_setCell_other _ _ _ _ hwq).trans hx4.out)⟩ (fun hHeld => ?_)
    clear hK K
    (try simp only [List.getElem_toArray, List.getElem_cons_succ, List.getElem_cons_zero, Act.put, List.setIfInBounds_toArray, List.set_cons_zero, List.set_cons_succ])
    refine wpAnyH_done (by kernel_rfl) ?_ _
    go_wp2_with fail
    go_ret
    have hlk : LkN W9 A1 d1 l := ⟨own_at hoc9, own_nil hoc9, hmax, fun a ha => own_typed hoc9 (by rw [ha]; rfl)⟩
    have hLL := Links.snoc (s := i) (x := (c, l)) hlk _ _ hL9
    refine ⟨rfl, ?_, ((hbB.mono (by omega)).trans hb4).setCell hBq _, _, _, _, _, heap_setCell_same w4 q 0 _ _ _ hq4.out, own_set ho4 hq4.out (by decide), by simp, Links.keep ?_ _ _ hLL, hBq⟩
    · intro k o hk hn1 hn2
      have k9 := below_blk hk hbB
      have hkq : k ≠ q := by
        rintro rfl
        rw [hq9.out] at k9
        injection k9 with k9
        exact hn1 _ _ k9.symm
      exact (heap_setCell_other _ _ _ _ hkq).trans (grown_typed ho9 hg4 k9 hn2)
    · intro k cs fr hk
      have hkq : k ≠ q := by
        rintro rfl
        rw [hq9.out] at hk
        injection hk with hk
        injection hk with _ h6 _
        exact absurd h6 (by decide)
      rw [hk]
      exact (heap_setCell_other _ _ _ _ hkq).trans (grown_typed ho9 hg4 hk (by intro cs fr he; injection he with _ h6 _; exact absurd h6 (by decide)))
  · go_simp
    refine (copy_calls c hAD rfl hnil (Nat.le_trans hmax (by decide))).mono ?_
    rintro e w1 ⟨A1, d1, rfl, hoc, hb1⟩
    unfold cmv
    go_wp2_with fail
    refine hK.out _ _ ⟨by have := hb1.size; omega, cells_of (below_blk hxD.out hb1)⟩ (fun hHeld => ?_)
    clear hK K
    (try simp only [List.getElem_toArray, List.getElem_cons_succ, List.getElem_cons_zero, Act.put, List.setIfInBounds_toArray, List.set_cons_zero, List.set_cons_succ])
    refine wpAnyH_take (i := 8) (v := ?_) rfl (by kernel_rfl) (by kernel_rfl) (by kernel_rfl) (fun _ _ _ h => h) (Or.inl ⟨by rfl, ?_⟩) (by assumption) ?_; rotate_left; (intro w hSw; (try dsimp only at hSw); go_simp; (first | done | (with_reducible rfl))); (try simp only [List.getElem_toArray, List.getElem_cons_succ, List.getElem_cons_zero, Act.put, List.setIfInBounds_toArray, List.set_cons_zero, List.set_cons_succ])
    have hqa := blk_cell (below_blk hq hb1) 0
    have hqb := blk_cell (below_blk (below_blk hq hb1) (below1 w1 (.cells #[.int .i64 i, .int .i64 c.id, .int .i64 c.kind, .string c.key, .int .i64 c.blob, .int .i64 c.other, .int .i64 c.index, .int .i64 c.node, .int .i64 c.size, .int .u32 c.sum, .int .i64 c.k, .int .i64 c.m, .slice A1 l.length d1] 63))) 0
    simp at hqa hqb
    refine wpAnyH_ready (rs := [4, 9]) (by kernel_rfl) (by simp) ?_
    refine AllReadyH.cons rfl (fun K hK => ?_) (AllReadyH.cons rfl (fun K hK => ?_) AllReadyH.nil)
    · go_simp
      go_wp2_with fail
      refine hK.out _ _ ⟨by have := hb1.size; omega, cells_of (below_blk hxD.out hb1)⟩ (fun hHeld => ?_)
      clear hK K
      (try simp only [List.getElem_toArray, List.getElem_cons_succ, List.getElem_cons_zero, Act.put, List.setIfInBounds_toArray, List.set_cons_zero, List.set_cons_succ])
      refine wpAnyH_ready (rs := [9]) (by kernel_rfl) (by simp) ?_; refine AllReadyH.cons rfl (fun K hK => ?_) AllReadyH.nil
      go_simp
      go_wp2_with fail
      refine hK.out _ _ ⟨by have := hb1.size; simp; omega, cells_of (below_blk (below_blk hxD.out hb1) (below1 _ _))⟩ (fun hHeld => ?_)
      clear hK K
      (try simp only [List.getElem_toArray, List.getElem_cons_succ, List.getElem_cons_zero, Act.put, List.setIfInBounds_toArray, List.set_cons_zero, List.set_cons_succ])
      have hb9 : Below WD.heap.size WD (w1.alloc (.cells #[.int .i64 i, .int .i64 c.id, .int .i64 c.kind, .string c.key, .int .i64 c.blob, .int .i64 c.other, .int .i64 c.index, .int .i64 c.node, .int .i64 c.size, .int .u32 c.sum, .int .i64 c.k, .int .i64 c.m, .slice A1 l.length d1] 63)) := hb1.trans ((below1 _ _).mono hb1.size)
      have ho9 := own_below ho hb9
      have hx9 := Lib.hid (below_blk hxD.out hb9)
      have hq9 := Lib.hid (below_blk hq hb9)
      have hbB : Below w.heap.size w (w1.alloc (.cells #[.int .i64 i, .int .i64 c.id, .int .i64 c.kind, .string c.key, .int .i64 c.blob, .int .i64 c.other, .int .i64 c.index, .int .i64 c.node, .int .i64 c.size, .int .u32 c.sum, .int .i64 c.k, .int .i64 c.m, .slice A1 l.length d1] 63)) := hbbD.trans (hb9.mono (by omega))
      have hoc9 := own_below hoc (below1 w1 (.cells #[.int .i64 i, .int .i64 c.id, .int .i64 c.kind, .string c.key, .int .i64 c.blob, .int .i64 c.other, .int .i64 c.index, .int .i64 c.node, .int .i64 c.size, .int .u32 c.sum, .int .i64 c.k, .int .i64 c.m, .slice A1 l.length d1] 63))
      have hn9 := at_new w1 #[.int .i64 i, .int .i64 c.id, .int .i64 c.kind, .string c.key, .int .i64 c.blob, .int .i64 c.other, .int .i64 c.index, .int .i64 c.node, .int .i64 c.size, .int .u32 c.sum, .int .i64 c.k, .int .i64 c.m, .slice A1 l.length d1] 63 (0, 0)
      have hL9 := Links.keep (fun k cs fr hk => hb9.block k (Array.getElem?_eq_some_iff.1 hk).1) _ _ hL
      have hz9 := hb9.size
      refine wpAnyH_ready (rs := [10]) (by kernel_rfl) (by simp) ?_; refine AllReadyH.cons rfl (fun K hK => ?_) AllReadyH.nil
      rw [if_pos (by rfl)]
      refine wp_app_link _ _ rfl B rfl ho9 rfl (news := (#[.int .i64 i, .int .i64 c.id, .int .i64 c.kind, .string c.key, .int .i64 c.blob, .int .i64 c.other, .int .i64 c.index, .int .i64 c.node, .int .i64 c.size, .int .u32 c.sum, .int .i64 c.k, .int .i64 c.m, .slice A1 l.length d1]).toList) rfl hn9 (lkc_one _ _ _ _) (by simp) (by omega) (by omega) ?_
      intro A4 c4 w4 ho4 hb4 hg4 hc4
      generalize w1.alloc (.cells #[.int .i64 i, .int .i64 c.id, .int .i64 c.kind, .string c.key, .int .i64 c.blob, .int .i64 c.other, .int .i64 c.index, .int .i64 c.node, .int .i64 c.size, .int .u32 c.sum, .int .i64 c.k, .int .i64 c.m, .slice A1 l.length d1] 63) = W9 at *
      have hx4 := Lib.hid (grown_typed ho9 hg4.1 hx9.out (by intro cs fr he; injection he with _ h2 _; exact absurd h2 (by decide)))
      have hq4 := Lib.hid (grown_typed ho9 hg4.1 hq9.out (by intro cs fr he; injection he with _ h2 _; exact absurd h2 (by decide)))
      have hz4 := hb4.size
      refine hK.out _ _ ⟨by omega, cells_of hx4.out⟩ (fun hHeld => ?_)
      clear hK K
      (try simp only [List.getElem_toArray, List.getElem_cons_succ, List.getElem_cons_zero, Act.put, List.setIfInBounds_toArray, List.set_cons_zero, List.set_cons_succ])
      refine wpAnyH_take (i := 11) (v := ?_) rfl (by kernel_rfl) (by kernel_rfl) (by kernel_rfl) (fun _ _ _ h => h) (Or.inl ⟨by rfl, ?_⟩) (by assumption) ?_; rotate_left; (intro w hSw; (try dsimp only at hSw); go_simp; (first | done | (with_reducible rfl))); (try simp only [List.getElem_toArray, List.getElem_cons_succ, List.getElem_cons_zero, Act.put, List.setIfInBounds_toArray, List.set_cons_zero, List.set_cons_succ])
      refine wpAnyH_take (i := 12) (v := ?_) rfl (by kernel_rfl) (by kernel_rfl) (by kernel_rfl) (fun _ _ _ h => h) (Or.inl ⟨by rfl, ?_⟩) (by assumption) ?_; rotate_left; (intro w hSw; (try dsimp only at hSw); go_simp; (first | done | (with_reducible rfl))); (try simp only [List.getElem_toArray, List.getElem_cons_succ, List.getElem_cons_zero, Act.put, List.setIfInBounds_toArray, List.set_cons_zero, List.set_cons_succ])
      have hqc := blk_cell hq4.out 0
      have hqf := blk_frozen hq4.out 0
      simp at hqc
      replace hg4 : W9.grownBy w4 (Value.slice A0 S.length d0).ownBlock := hg4.1
      refine wpAnyH_ready (rs := [13]) (by kernel_rfl) (by simp) ?_; refine AllReadyH.cons rfl (fun K hK => ?_) AllReadyH.nil
      go_simp
      go_wp2_with fail
      have hwq : w.heap.size ≠ q := by omega
      refine hK.out _ _ ⟨by simp [World.setCell]; omega, cells_of ((heap_setCell_other _ _ _ _ hwq).trans hx4.out)⟩ (fun hHeld => ?_)
      clear hK K
      (try simp only [List.getElem_toArray, List.getElem_cons_succ, List.getElem_cons_zero, Act.put, List.setIfInBounds_toArray, List.set_cons_zero, List.set_cons_succ])
      refine wpAnyH_done (by kernel_rfl) ?_ _
      go_wp2_with fail
      go_ret
      have hlk : LkN W9 A1 d1 l := ⟨own_at hoc9, own_nil hoc9, hmax, fun a ha => own_typed hoc9 (by rw [ha]; rfl)⟩
      have hLL := Links.snoc (s := i) (x := (c, l)) hlk _ _ hL9
      refine ⟨rfl, ?_, ((hbB.mono (by omega)).trans hb4).setCell hBq _, _, _, _, _, heap_setCell_same w4 q 0 _ _ _ hq4.out, own_set ho4 hq4.out (by decide), by simp, Links.keep ?_ _ _ hLL, hBq⟩
      · intro k o hk hn1 hn2
        have k9 := below_blk hk hbB
        have hkq : k ≠ q := by
          rintro rfl
          rw [hq9.out] at k9
          injection k9 with k9
          exact hn1 _ _ k9.symm
        exact (heap_setCell_other _ _ _ _ hkq).trans (grown_typed ho9 hg4 k9 hn2)
      · intro k cs fr hk
        have hkq : k ≠ q := by
          rintro rfl
          rw [hq9.out] at hk
          injection hk with hk
          injection hk with _ h6 _
          exact absurd h6 (by decide)
        rw [hk]
        exact (heap_setCell_other _ _ _ _ hkq).trans (grown_typed ho9 hg4 hk (by intro cs fr he; injection he with _ h6 _; exact absurd h6 (by decide)))
    · go_simp
      go_wp2_with fail
      refine hK.out _ _ ⟨by have := hb1.size; simp; omega, cells_of (below_blk (below_blk hxD.out hb1) (below1 _ _))⟩ (fun hHeld => ?_)
      clear hK K
      (try simp only [List.getElem_toArray, List.getElem_cons_succ, List.getElem_cons_zero, Act.put, List.setIfInBounds_toArray, List.set_cons_zero, List.set_cons_succ])
      refine wpAnyH_ready (rs := [4]) (by kernel_rfl) (by simp) ?_; refine AllReadyH.cons rfl (fun K hK => ?_) AllReadyH.nil
      go_simp
      go_wp2_with fail
      refine hK.out _ _ ⟨by have := hb1.size; simp; omega, cells_of (below_blk (below_blk hxD.out hb1) (below1 _ _))⟩ (fun hHeld => ?_)
      clear hK K
      (try simp only [List.getElem_toArray, List.getElem_cons_succ, List.getElem_cons_zero, Act.put, List.setIfInBounds_toArray, List.set_cons_zero, List.set_cons_succ])
      have hb9 : Below WD.heap.size WD (w1.alloc (.cells #[.int .i64 i, .int .i64 c.id, .int .i64 c.kind, .string c.key, .int .i64 c.blob, .int .i64 c.other, .int .i64 c.index, .int .i64 c.node, .int .i64 c.size, .int .u32 c.sum, .int .i64 c.k, .int .i64 c.m, .slice A1 l.length d1] 63)) := hb1.trans ((below1 _ _).mono hb1.size)
      have ho9 := own_below ho hb9
      have hx9 := Lib.hid (below_blk hxD.out hb9)
      have hq9 := Lib.hid (below_blk hq hb9)
      have hbB : Below w.heap.size w (w1.alloc (.cells #[.int .i64 i, .int .i64 c.id, .int .i64 c.kind, .string c.key, .int .i64 c.blob, .int .i64 c.other, .int .i64 c.index, .int .i64 c.node, .int .i64 c.size, .int .u32 c.sum, .int .i64 c.k, .int .i64 c.m, .slice A1 l.length d1] 63)) := hbbD.trans (hb9.mono (by omega))
      have hoc9 := own_below hoc (below1 w1 (.cells #[.int .i64 i, .int .i64 c.id, .int .i64 c.kind, .string c.key, .int .i64 c.blob, .int .i64 c.other, .int .i64 c.index, .int .i64 c.node, .int .i64 c.size, .int .u32 c.sum, .int .i64 c.k, .int .i64 c.m, .slice A1 l.length d1] 63))
      have hn9 := at_new w1 #[.int .i64 i, .int .i64 c.id, .int .i64 c.kind, .string c.key, .int .i64 c.blob, .int .i64 c.other, .int .i64 c.index, .int .i64 c.node, .int .i64 c.size, .int .u32 c.sum, .int .i64 c.k, .int .i64 c.m, .slice A1 l.length d1] 63 (0, 0)
      have hL9 := Links.keep (fun k cs fr hk => hb9.block k (Array.getElem?_eq_some_iff.1 hk).1) _ _ hL
      have hz9 := hb9.size
      refine wpAnyH_ready (rs := [10]) (by kernel_rfl) (by simp) ?_; refine AllReadyH.cons rfl (fun K hK => ?_) AllReadyH.nil
      rw [if_pos (by rfl)]
      refine wp_app_link _ _ rfl B rfl ho9 rfl (news := (#[.int .i64 i, .int .i64 c.id, .int .i64 c.kind, .string c.key, .int .i64 c.blob, .int .i64 c.other, .int .i64 c.index, .int .i64 c.node, .int .i64 c.size, .int .u32 c.sum, .int .i64 c.k, .int .i64 c.m, .slice A1 l.length d1]).toList) rfl hn9 (lkc_one _ _ _ _) (by simp) (by omega) (by omega) ?_
      intro A4 c4 w4 ho4 hb4 hg4 hc4
      generalize w1.alloc (.cells #[.int .i64 i, .int .i64 c.id, .int .i64 c.kind, .string c.key, .int .i64 c.blob, .int .i64 c.other, .int .i64 c.index, .int .i64 c.node, .int .i64 c.size, .int .u32 c.sum, .int .i64 c.k, .int .i64 c.m, .slice A1 l.length d1] 63) = W9 at *
      have hx4 := Lib.hid (grown_typed ho9 hg4.1 hx9.out (by intro cs fr he; injection he with _ h2 _; exact absurd h2 (by decide)))
      have hq4 := Lib.hid (grown_typed ho9 hg4.1 hq9.out (by intro cs fr he; injection he with _ h2 _; exact absurd h2 (by decide)))
      have hz4 := hb4.size
      refine hK.out _ _ ⟨by omega, cells_of hx4.out⟩ (fun hHeld => ?_)
      clear hK K
      (try simp only [List.getElem_toArray, List.getElem_cons_succ, List.getElem_cons_zero, Act.put, List.setIfInBounds_toArray, List.set_cons_zero, List.set_cons_succ])
      refine wpAnyH_take (i := 11) (v := ?_) rfl (by kernel_rfl) (by kernel_rfl) (by kernel_rfl) (fun _ _ _ h => h) (Or.inl ⟨by rfl, ?_⟩) (by assumption) ?_; rotate_left; (intro w hSw; (try dsimp only at hSw); go_simp; (first | done | (with_reducible rfl))); (try simp only [List.getElem_toArray, List.getElem_cons_succ, List.getElem_cons_zero, Act.put, List.setIfInBounds_toArray, List.set_cons_zero, List.set_cons_succ])
      refine wpAnyH_take (i := 12) (v := ?_) rfl (by kernel_rfl) (by kernel_rfl) (by kernel_rfl) (fun _ _ _ h => h) (Or.inl ⟨by rfl, ?_⟩) (by assumption) ?_; rotate_left; (intro w hSw; (try dsimp only at hSw); go_simp; (first | done | (with_reducible rfl))); (try simp only [List.getElem_toArray, List.getElem_cons_succ, List.getElem_cons_zero, Act.put, List.setIfInBounds_toArray, List.set_cons_zero, List.set_cons_succ])
      have hqc := blk_cell hq4.out 0
      have hqf := blk_frozen hq4.out 0
      simp at hqc
      replace hg4 : W9.grownBy w4 (Value.slice A0 S.length d0).ownBlock := hg4.1
      refine wpAnyH_ready (rs := [13]) (by kernel_rfl) (by simp) ?_; refine AllReadyH.cons rfl (fun K hK => ?_) AllReadyH.nil
      go_simp
      go_wp2_with fail
      have hwq : w.heap.size ≠ q := by omega
      refine hK.out _ _ ⟨by simp [World.setCell]; omega, cells_of ((heap_setCell_other _ _ _ _ hwq).trans hx4.out)⟩ (fun hHeld => ?_)
      clear hK K
      (try simp only [List.getElem_toArray, List.getElem_cons_succ, List.getElem_cons_zero, Act.put, List.setIfInBounds_toArray, List.set_cons_zero, List.set_cons_succ])
      refine wpAnyH_done (by kernel_rfl) ?_ _
      go_wp2_with fail
      go_ret
      have hlk : LkN W9 A1 d1 l := ⟨own_at hoc9, own_nil hoc9, hmax, fun a ha => own_typed hoc9 (by rw [ha]; rfl)⟩
      have hLL := Links.snoc (s := i) (x := (c, l)) hlk _ _ hL9
      refine ⟨rfl, ?_, ((hbB.mono (by omega)).trans hb4).setCell hBq _, _, _, _, _, heap_setCell_same w4 q 0 _ _ _ hq4.out, own_set ho4 hq4.out (by decide), by simp, Links.keep ?_ _ _ hLL, hBq⟩
      · intro k o hk hn1 hn2
        have k9 := below_blk hk hbB
        have hkq : k ≠ q := by
          rintro rfl
          rw [hq9.out] at k9
          injection k9 with k9
          exact hn1 _ _ k9.symm
        exact (heap_setCell_other _ _ _ _ hkq).trans (grown_typed ho9 hg4 k9 hn2)
      · intro k cs fr hk
        have hkq : k ≠ q := by
          rintro rfl
          rw [hq9.out] at hk
          injection hk with hk
          injection hk with _ h6 _
          exact absurd h6 (by decide)
        rw [hk]
        exact (heap_setCell_other _ _ _ _ hkq).trans (grown_typed ho9 hg4 hk (by intro cs fr he; injection he with _ h6 _; exact absurd h6 (by decide)))

/-- The document's Learn, in all cases. -/
theorem rlearn_calls {w : World} {B q : Nat} {S : List (Int × Cd)} {i : Int} {x : Cd} {A : Option Addr} {n a : Nat} (h : RChain w B q S) (hS : S.length < 1000000)
    (hA : At w A (ints x.2)) (hn : n = x.2.length) (hnil : A = none → a = 0) (hmax : x.2.length * 8 ≤ 140737488351232) :
    Calls Try.prog 15 #[.pointer (some ⟨q, 0, none⟩), .int .i64 i, .agg #[.int .i64 x.1.id, .int .i64 x.1.kind, .string x.1.key, .int .i64 x.1.blob, .int .i64 x.1.other, .int .i64 x.1.index, .int .i64 x.1.node, .int .i64 x.1.size, .int .u32 x.1.sum, .int .i64 x.1.k, .int .i64 x.1.m, .slice A n a]] w (RetRL w B q (learnS S i x) (learnR S i x)) := by
  by_cases ho : (i < 1 ∨ 1152921504606846976 < i) ∨ look S i ≠ none
  · exact rlearn_old h hS hA hn hmax ho
  · have hr : ¬ (i < 1 ∨ 1152921504606846976 < i) := fun h => ho (.inl h)
    have hl : look S i = none := by
      cases hl : look S i with
      | none => rfl
      | some x => exact absurd (.inr (by rw [hl]; simp)) ho
    have e1 : learnR S i x = 0 := by unfold learnR; rw [if_neg hr, hl]
    have e2 : learnS S i x = S ++ [(i, x)] := by unfold learnS; rw [if_neg hr, hl]
    rw [e1, e2]
    exact rlearn_new h hS hA hn hnil hmax (by omega) (by omega) hl

end Go.Proofs.Ytlcchpjficbgmaa
