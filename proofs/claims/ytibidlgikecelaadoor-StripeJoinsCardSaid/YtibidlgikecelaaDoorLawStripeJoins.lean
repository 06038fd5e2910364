/- StripeJoins: for every code c, every size and every list of texts shards the law amphoralaw04.StripeJoins returns true (the blob that Join makes is that of the reference, or the error is; the shards stay), and the arguments read afterwards as they read before. Condition: the table galois.fold reads as the program's text lays it; the card ties it to that text. -/
import Derived.Test.YtibidlgikecelaaDoorRows
import Derived.Test.YtibidlgikecelaaDoorT34
import Derived.Test.YtibidlgikecelaaDoorLL
import Derived.Test.YtibidlgikecelaaDoorLT
import Derived.Test.YtibidlgikecelaaDoorLS
namespace Go.Proofs.YtibidlgikecelaaDoor
namespace stripeJoins
open Go.ChangeShapes Go.WideShapes Go.ChangeAt Go.RowKit
set_option linter.unusedVariables false
theorem own : ownKnob Tryd.prog.godebug = none := by kernel_rfl
theorem laidOut : laidOutB Tryd.prog = true := by kernel_rfl
theorem reads (os : Os) {H : Type} (enc : TypeId × Value → H) : ∃ places, DataW.whole enc Tryd.prog ((laidWorld os).forCall (fun _ _ => 0) ⟨#[], #[.agg #[.int .i64 0, .int .i64 0], .int .i64 0, .slice none 0 0], []⟩).memory Tryd.f21.params.toList Rows.stripeJoinsSpec.vars false #[.agg #[.int .i64 0, .int .i64 0], .int .i64 0, .slice none 0 0].toList 8 = some ([.agg [.lit (.int .i64 0), .lit (.int .i64 0)], .lit (.int .i64 0), .nil], [], places) :=
  ⟨[], by kernel_rfl⟩
set_option maxRecDepth 100000 in
theorem lifted (os : Os) (started : os.Started) (H : Type) (enc : TypeId × Value → H) (F : Stop.Interp) :
    ReturnsInHanded {} Tryd.checked os 21 .any ((OpenSpec.ofChange Rows.stripeJoinsSpec).preRow enc Tryd.prog Tryd.f21 Rows.stripeJoinsRow.domain false Rows.stripeJoinsRow.laid) (((OpenSpec.ofChange Rows.stripeJoinsSpec).at F).post enc Tryd.prog Tryd.f21 false true false false) := by
  obtain ⟨places, hx⟩ := reads os enc
  refine returnsInHanded_of_row (C := Tryd.checked) (s := OpenSpec.ofChange Rows.stripeJoinsSpec) own started (by kernel_rfl) Tryd.func21
    (witness_row_at (enc := enc) (C := Tryd.checked) false (laidWorld os) #[.agg #[.int .i64 0, .int .i64 0], .int .i64 0, .slice none 0 0] rfl (by kernel_rfl) (by kernel_rfl) (by kernel_rfl)
      (OpenSpec.preRow_of_cond 8 hx (by kernel_rfl) (fun k hk => by cases hk) (by kernel_rfl) (laid_met os _))) ?_
  intro W base args ds gs before hval0 hW _ _ hsz0 hL _ _
  have hsz : (DataW.weightsEach Tryd.prog (Tryd.f21.params.toList ++ Rows.stripeJoinsSpec.plain.varTypes Tryd.prog) (ds ++ gs)).all (· ≤ reachBytes) = true := hsz0
  have hval : ∀ (j : Nat) t v, Tryd.f21.params[j]? = some t → args[j]? = some v → Value.okWide Tryd.prog W .any base t v := hval0
  have hF : FoldAt W := fold_of hL
  have hW' := hW
  obtain ⟨p, q, hA0, hV, rfl, hfz, hnd⟩ := hW
  have hA : DataW.TrodAll enc Tryd.prog W 0 (fun _ => true) true Tryd.f21.params.toList args.toList ds p := hA0
  rw [Tryd.params21] at hA hval hsz
  obtain ⟨v0, vs0, d0, ds0, p0, q0, hargs, rfl, rfl, h0, r0⟩ := trodAll_cons hA
  obtain ⟨v1, vs1, d1, ds1, p1, q1, rfl, rfl, rfl, h1, r1⟩ := trodAll_cons r0
  obtain ⟨v2, vs2, d2, ds2, p2, q2, rfl, rfl, rfl, h2, r2⟩ := trodAll_cons r1
  obtain ⟨rfl, rfl, rfl⟩ := trodAll_nil r2
  obtain rfl : args = #[v0, v1, v2] := by cases args; simp_all
  obtain ⟨rfl, rfl⟩ := trodVars_none hV
  have hl0 := trod_lt h0
  have hk0 := h0
  have hl1 := trod_lt h1
  have hk1 := h1
  have hl2 := trod_lt h2
  have hk2 := h2
  obtain ⟨K, M, rfl, f1, f2⟩ := open_code (hval 0 38 v0 rfl rfl) h0
  obtain ⟨x, rfl, e1, e2, w0⟩ := open_int Tryd.underlying3 (hval 1 3 v1 rfl rfl) h1
  obtain ⟨A, n, c, vs, LL, rfl, hn, hAt, hnil, hmax, hnc, hT⟩ := open_texts (j := 2) Tryd.underlying24 (by kernel_rfl) (by kernel_rfl) Tryd.underlying22 Tryd.underlying5 (by kernel_rfl) (by kernel_rfl) (hval 2 24 v2 rfl rfl) h2 hsz rfl rfl
  have k1 := hT.1
  refine (stripeJoins_calls hAt hT (by omega) (by omega) hF).mono fun e W' ⟨he, bel⟩ => ?_
  subst he
  exact ⟨_, rfl, _, _, _, [], _, [], hW', trodAll_mk1 (shut_bool Tryd.underlying4 _), (trodAll_cons_mk (Below.trod laidOut (by kernel_rfl) (of_decide_eq_true (by kernel_rfl)) hk0 bel hl0) (trodAll_cons_mk (Below.trod laidOut (by kernel_rfl) (of_decide_eq_true (by kernel_rfl)) hk1 bel hl1) (trodAll_cons_mk (Below.trod laidOut (by kernel_rfl) (of_decide_eq_true (by kernel_rfl)) hk2 bel hl2) trodAll_mk0))), rfl, bel.frame _, fun h => by cases h⟩
set_option maxRecDepth 100000 in
theorem facts : joinedFacts Tryd.prog 21 Tryd.f21 Rows.stripeJoinsSpec Rows.stripeJoinsRow = true := by
  have e1 : (Rows.stripeJoinsRow.lifted == Tryd.prog.liftsFinal) = true := by rw [liftsFinal]; rfl
  have e2 : (Tryd.prog.make == some Rows.stripeJoinsRow.make) = true := by rw [makeCut]; rfl
  have e3 := mayEnter
  unfold joinedFacts
  generalize (Rows.stripeJoinsRow.lifted == Tryd.prog.liftsFinal) = a1 at *
  generalize (Tryd.prog.make == some Rows.stripeJoinsRow.make) = a2 at *
  generalize Tryd.prog.mayEnter = a3 at *
  subst e1 e2 e3
  refine Eq.trans (b := true) ?_ rfl
  kernel_rfl
theorem said : Rows.stripeJoinsRow.holds Tryd.pinned (OpenSpec.ofChange Rows.stripeJoinsSpec) :=
  OpenClaim.holds_of_cond 21 Tryd.f21 rfl rfl rfl rfl rfl rfl rfl ⟨rfl, rfl, rfl, rfl, rfl⟩ rfl rfl rfl rfl rfl (by kernel_rfl) Tryd.func21 facts
    (of_decide_eq_true (by kernel_rfl)) (by unfold Func.isWrapper; first | (rw [if_pos (by decide +kernel)]; kernel_rfl) | (rw [if_neg (by decide +kernel)]; exact ⟨rfl, rfl⟩))
    (fun os started H enc _ F => by rw [OpenClaim.pre_eq_preRow]; exact lifted os started H enc F)
theorem goes : false = Rows.stripeJoinsRow.goesBy Tryd.prog := by kernel_rfl
theorem plain (f : FuncId) (fn : Func) (hf : Tryd.pinned.checked.prog.funcNamed "amphora/amphoralaw04.StripeJoins" = some f) (hfn : Tryd.pinned.checked.prog.funcs[f]? = some fn) :
    false = Tryd.pinned.checked.prog.looks [] ∧ ∀ (j : Nat) t, fn.params[j]? = some t → Tryd.pinned.checked.prog.wantsStandIn t = false := by
  obtain rfl : f = 21 := Option.some.inj ((show Tryd.prog.funcNamed "amphora/amphoralaw04.StripeJoins" = some 21 by kernel_rfl).symm.trans hf) |>.symm
  obtain rfl : fn = Tryd.f21 := (Option.some.inj (Tryd.func21.symm.trans hfn)).symm
  refine ⟨by kernel_rfl, fun j t ht => ?_⟩
  have hm : t ∈ Tryd.f21.params.toList := Array.mem_toList_iff.2 (Array.mem_of_getElem? ht)
  have hall : (Tryd.f21.params.toList.all fun u => !Tryd.prog.wantsStandIn u) = true := by kernel_rfl
  exact (show Tryd.prog.wantsStandIn t = false by simpa using List.all_eq_true.1 hall t hm)
end stripeJoins
theorem stripeJoins_card : Rows.StripeJoinsCardSaid :=
  Claim7.holds_tied_plain_at .later [] _ _ _ _ stripeJoins.said (fun _ h => by cases h) (by kernel_rfl) (fun _ h => by cases h) stripeJoins_row_tie rfl ⟨rfl, rfl⟩ mainIs rfl stripeJoins.plain stripeJoins.goes
end Go.Proofs.YtibidlgikecelaaDoor
