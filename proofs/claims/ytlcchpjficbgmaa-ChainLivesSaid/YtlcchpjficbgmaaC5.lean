/- Chains: Learn, in all cases. -/
import Derived.Test.YtlcchpjficbgmaaC4
namespace Go.Proofs.Ytlcchpjficbgmaa
open Go.RowKit Go.Maps
set_option linter.unusedVariables false
set_option linter.unusedSimpArgs false

/-- What a Learn does. -/
def learnR (S : List (Int × Cd)) (i : Int) (x : Cd) : Int :=
  if i < 1 ∨ 1152921504606846976 < i then 1 else match look S i with | some y => if sameB x y then 0 else 130 | none => 0
def learnS (S : List (Int × Cd)) (i : Int) (x : Cd) : List (Int × Cd) :=
  if i < 1 ∨ 1152921504606846976 < i then S else match look S i with | some y => S | none => S ++ [(i, x)]

/-- A chain with its next slot right. -/
structure Chain (w : World) (p m : Nat) (S : List (Int × Cd)) (nx : Int) : Prop where
  at' : ChainAt w p m S nx
  pos : 1 ≤ nx
  all : ∀ j, 1 ≤ j → j < nx → look S j ≠ none
  next : look S nx = none
  sums : ∀ e, e ∈ S → SumOk e.2.1
theorem Chain.below {w w' : World} {p m : Nat} {S : List (Int × Cd)} {nx : Int} (h : Chain w p m S nx) (hb : Below w.heap.size w w') : Chain w' p m S nx :=
  ⟨h.at'.below hb, h.pos, h.all, h.next, h.sums⟩
theorem Chain.lt {w : World} {p m : Nat} {S : List (Int × Cd)} {nx : Int} (h : Chain w p m S nx) : p < w.heap.size ∧ m < w.heap.size := h.at'.lt

/-- A Learn answers r, and leaves the chain with S. -/
def RetL (w : World) (p m : Nat) (S : List (Int × Cd)) (r : Int) (e : Ending) (w' : World) : Prop :=
  e = .returned (.int .i64 r) ∧ Upd p m w w' ∧ ∃ nx, Chain w' p m S nx

set_option maxHeartbeats 1000000 in
set_option maxRecDepth 100000 in
theorem learn_calls {w : World} {p m : Nat} {S : List (Int × Cd)} {next i : Int} {x : Cd} {A : Option Addr} {n a : Nat} (h : Chain w p m S next) (hi : (Lit.int .i64 i).wf = true) (hS : S.length < 1000000)
    (hA : At w A (ints x.2)) (hn : n = x.2.length) (hnil : A = none → a = 0) (hmax : x.2.length * 8 ≤ 140737488351232) (hx : SumOk x.1) :
    Calls Try.prog 10 #[.pointer (some ⟨p, 0, none⟩), .int .i64 i, .agg #[.int .i64 x.1.id, .int .i64 x.1.kind, .string x.1.key, .int .i64 x.1.blob, .int .i64 x.1.other, .int .i64 x.1.index, .int .i64 x.1.node, .int .i64 x.1.size, .int .u32 x.1.sum, .int .i64 x.1.k, .int .i64 x.1.m, .slice A n a]] w (RetL w p m (learnS S i x) (learnR S i x)) := by
  by_cases hr : i < 1 ∨ 1152921504606846976 < i
  · have e1 : learnR S i x = 1 := if_pos hr
    have e2 : learnS S i x = S := if_pos hr
    rw [e1, e2]
    have HC := Lib.hid h
    have h0 := h.at'
    have hr2 : (decide (i < 1) || decide (1152921504606846976 < i)) = true := by simpa using hr
    clear e1 e2 h hr
    go_enter Try.func10, Try.ntmps10
    go_wp2_with (go_at_call 22; refine (none_calls (h0.below (below1 _ _))).mono ?_; rintro e w' ⟨rfl, rfl⟩)
    all_goals (go_ret; exact ⟨rfl, .of_below (below1 _ _), next, HC.out.below (below1 _ _)⟩)
  · have h1 : 1 ≤ i := by omega
    have h2 : i ≤ 1152921504606846976 := by omega
    cases hl : look S i with
    | none =>
      have e1 : learnR S i x = 0 := by unfold learnR; rw [if_neg hr, hl]
      have e2 : learnS S i x = S ++ [(i, x)] := by unfold learnS; rw [if_neg hr, hl]
      rw [e1, e2]
      refine (learn_new h.at' hl h1 h2 hS hA hn hnil hmax h.pos h.all).mono ?_
      rintro e w' ⟨r1, r2, nx, r3, r4, r5, r6⟩
      refine ⟨r1, r2, nx, r3, r4, r5, r6, ?_⟩
      intro e he
      rcases List.mem_append.1 he with he | he
      · exact h.sums e he
      · simp at he; subst he; exact hx
    | some y =>
      have hy : SumOk y.1 := by
        unfold look at hl
        obtain ⟨e, he, rfl⟩ := Option.map_eq_some_iff.1 hl
        exact h.sums e (List.mem_of_find?_eq_some he)
      have E1 := Lib.hid (by unfold learnR; rw [if_neg hr, hl] : learnR S i x = if sameB x y then 0 else 130)
      have e2 : learnS S i x = S := by unfold learnS; rw [if_neg hr, hl]
      rw [e2]
      clear hr e2
      have HC := Lib.hid h
      have h0 := h.at'
      obtain ⟨f, hf, hF⟩ := h0.map
      have hFi := hF i
      rw [hl] at hFi
      obtain ⟨v, hv, nv, rfl, ⟨B, d, rfl, hB, hlc, hnil2, hmax2⟩, hfar⟩ := hFi
      have HV := Lib.hid hv
      have HN := Lib.hid hn
      have h00 := blk_cell h0.head 0
      simp at h00
      have hlt := h0.lt
      clear hv hl h hn hF
      obtain ⟨xc, xl⟩ := x
      obtain ⟨yc, yl⟩ := y
      cases hsb : sameB (xc, xl) (yc, yl) with
      | true =>
        have E2 := Lib.hid (by rw [E1.out, hsb]; rfl : learnR S i (xc, xl) = 0)
        have hsame := fun (W : World) hA hB hn' => same_calls (w := W) (x := (xc, xl)) (y := (yc, yl)) (A := A) (B := B) (n := n) (n' := yl.length) (a := a) (b := d) hA hB HN.out hn' (by omega) hx hy
        rw [hsb] at hsame
        have HSM := Lib.hid hsame
        clear E1 hsb hsame
        go_enter Try.func10, Try.ntmps10
        go_wp2_with (first
          | (go_at_call 22; refine (none_calls (h0.below (below1 _ _))).mono ?_; rintro e w' ⟨rfl, rfl⟩)
          | (at_lookup; refine wpList_look rfl _ _ _ rfl 3 27 Try.underlying3 Try.underlying41 zeroCmd rfl (hf.of_block (Below.heap_alloc _ _ _ hlt.2)) rfl hi (r := .tuple #[.agg #[.int .i64 yc.id, .int .i64 yc.kind, .string yc.key, .int .i64 yc.blob, .int .i64 yc.other, .int .i64 yc.index, .int .i64 yc.node, .int .i64 yc.size, .int .u32 yc.sum, .int .i64 yc.k, .int .i64 yc.m, .slice B yl.length d], .bool true]) (by rw [HV.out]; rfl) ?_)
          | (go_at_call 23; refine (HSM.out _ (hA.below (below2 _ _ _)) (hB.below (below2 _ _ _)) (by simp)).mono ?_; rintro e w' ⟨rfl, hb⟩))
        go_ret
        exact ⟨by rw [E2.out]; rfl, (Upd.of_below (below2 _ _ _)).trans (.of_below hb), next, (HC.out.below (below2 _ _ _)).below hb⟩
      | false =>
        have E2 := Lib.hid (by rw [E1.out, hsb]; rfl : learnR S i (xc, xl) = 130)
        have hsame := fun (W : World) hA hB hn' => same_calls (w := W) (x := (xc, xl)) (y := (yc, yl)) (A := A) (B := B) (n := n) (n' := yl.length) (a := a) (b := d) hA hB HN.out hn' (by omega) hx hy
        rw [hsb] at hsame
        have HSM := Lib.hid hsame
        clear E1 hsb hsame
        go_enter Try.func10, Try.ntmps10
        go_wp2_with (first
          | (go_at_call 22; refine (none_calls (h0.below (below1 _ _))).mono ?_; rintro e w' ⟨rfl, rfl⟩)
          | (at_lookup; refine wpList_look rfl _ _ _ rfl 3 27 Try.underlying3 Try.underlying41 zeroCmd rfl (hf.of_block (Below.heap_alloc _ _ _ hlt.2)) rfl hi (r := .tuple #[.agg #[.int .i64 yc.id, .int .i64 yc.kind, .string yc.key, .int .i64 yc.blob, .int .i64 yc.other, .int .i64 yc.index, .int .i64 yc.node, .int .i64 yc.size, .int .u32 yc.sum, .int .i64 yc.k, .int .i64 yc.m, .slice B yl.length d], .bool true]) (by rw [HV.out]; rfl) ?_)
          | (go_at_call 23; refine (HSM.out _ (hA.below (below2 _ _ _)) (hB.below (below2 _ _ _)) (by simp)).mono ?_; rintro e w' ⟨rfl, hb⟩))
        go_ret
        exact ⟨by rw [E2.out]; rfl, (Upd.of_below (below2 _ _ _)).trans (.of_below hb), next, (HC.out.below (below2 _ _ _)).below hb⟩

end Go.Proofs.Ytlcchpjficbgmaa
