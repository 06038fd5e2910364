/- StripeBack: for all numbers k, m, every text of bytes and every mask the law amphoralaw04.StripeBack returns true (of any shards, as many as the data, the blob is told), and the arguments read afterwards as they read before. Condition: the table galois.fold reads as the program's text lays it; the card ties it to that text. -/
import Derived.Test.YtibidlgikecelaaDoorRows
import Derived.Test.YtibidlgikecelaaDoorS8
import Derived.Test.YtibidlgikecelaaDoorLL
namespace Go.Proofs.YtibidlgikecelaaDoor
namespace stripeBack
open Go.ChangeShapes Go.WideShapes Go.ChangeAt Go.RowKit
set_option linter.unusedVariables false
theorem own : ownKnob Tryd.prog.godebug = none := by kernel_rfl
theorem laidOut : laidOutB Tryd.prog = true := by kernel_rfl
theorem reads (os : Os) {H : Type} (enc : TypeId × Value → H) : ∃ places, DataW.whole enc Tryd.prog ((laidWorld os).forCall (fun _ _ => 0) ⟨#[], #[.int .i64 0, .int .i64 0, .slice none 0 0, .int .u64 0], []⟩).memory Tryd.f22.params.toList Rows.stripeBackSpec.vars false #[.int .i64 0, .int .i64 0, .slice none 0 0, .int .u64 0].toList 8 = some ([.lit (.int .i64 0), .lit (.int .i64 0), .nil, .lit (.int .u64 0)], [], places) :=
  ⟨[], by kernel_rfl⟩
set_option maxRecDepth 100000 in
theorem lifted (os : Os) (started : os.Started) (H : Type) (enc : TypeId × Value → H) (F : Stop.Interp) :
    ReturnsInHanded {} Tryd.checked os 22 .any ((OpenSpec.ofChange Rows.stripeBackSpec).preRow enc Tryd.prog Tryd.f22 Rows.stripeBackRow.domain false Rows.stripeBackRow.laid) (((OpenSpec.ofChange Rows.stripeBackSpec).at F).post enc Tryd.prog Tryd.f22 false true false false) := by
  obtain ⟨places, hx⟩ := reads os enc
  refine returnsInHanded_of_row (C := Tryd.checked) (s := OpenSpec.ofChange Rows.stripeBackSpec) own started (by kernel_rfl) Tryd.func22
    (witness_row_at (enc := enc) (C := Tryd.checked) false (laidWorld os) #[.int .i64 0, .int .i64 0, .slice none 0 0, .int .u64 0] rfl (by kernel_rfl) (by kernel_rfl) (by kernel_rfl)
      (OpenSpec.preRow_of_cond 8 hx (by kernel_rfl) (fun k hk => by cases hk) (by kernel_rfl) (laid_met os _))) ?_
  intro W base args ds gs before hval0 hW _ _ hsz0 hL _ _
  have hsz : (DataW.weightsEach Tryd.prog (Tryd.f22.params.toList ++ Rows.stripeBackSpec.plain.varTypes Tryd.prog) (ds ++ gs)).all (· ≤ reachBytes) = true := hsz0
  have hval : ∀ (j : Nat) t v, Tryd.f22.params[j]? = some t → args[j]? = some v → Value.okWide Tryd.prog W .any base t v := hval0
  have hF : FoldAt W := fold_of hL
  have hW' := hW
  obtain ⟨p, q, hA0, hV, rfl, hfz, hnd⟩ := hW
  have hA : DataW.TrodAll enc Tryd.prog W 0 (fun _ => true) true Tryd.f22.params.toList args.toList ds p := hA0
  rw [Tryd.params22] at hA hval hsz
  obtain ⟨v0, vs0, d0, ds0, p0, q0, hargs, rfl, rfl, h0, r0⟩ := trodAll_cons hA
  obtain ⟨v1, vs1, d1, ds1, p1, q1, rfl, rfl, rfl, h1, r1⟩ := trodAll_cons r0
  obtain ⟨v2, vs2, d2, ds2, p2, q2, rfl, rfl, rfl, h2, r2⟩ := trodAll_cons r1
  obtain ⟨v3, vs3, d3, ds3, p3, q3, rfl, rfl, rfl, h3, r3⟩ := trodAll_cons r2
  obtain ⟨rfl, rfl, rfl⟩ := trodAll_nil r3
  obtain rfl : args = #[v0, v1, v2, v3] := by cases args; simp_all
  obtain ⟨rfl, rfl⟩ := trodVars_none hV
  have hl0 := trod_lt h0
  have hk0 := h0
  have hl1 := trod_lt h1
  have hk1 := h1
  have hl2 := trod_lt h2
  have hk2 := h2
  have hl3 := trod_lt h3
  have hk3 := h3
  obtain ⟨x, rfl, e1, e2, w0⟩ := open_int Tryd.underlying3 (hval 0 3 v0 rfl rfl) h0
  obtain ⟨y, rfl, f1, f2, w1⟩ := open_int Tryd.underlying3 (hval 1 3 v1 rfl rfl) h1
  obtain ⟨A, n, c, l, rfl, rfl, hAt, hnil, hmax, hnc⟩ := open_bytes (j := 2) Tryd.underlying22 Tryd.underlying5 (by kernel_rfl) (by kernel_rfl) (hval 2 22 v2 rfl rfl) h2 hsz rfl rfl
  obtain ⟨u, rfl, u1, u2, w3⟩ := open_int Tryd.underlying23 (hval 3 23 v3 rfl rfl) h3
  refine (stripeBack_calls hAt rfl (by omega) hnc hF w3).mono fun e W' ⟨he, bel⟩ => ?_
  subst he
  exact ⟨_, rfl, _, _, _, [], _, [], hW', trodAll_mk1 (shut_bool Tryd.underlying4 _), (trodAll_cons_mk (Below.trod laidOut (by kernel_rfl) (of_decide_eq_true (by kernel_rfl)) hk0 bel hl0) (trodAll_cons_mk (Below.trod laidOut (by kernel_rfl) (of_decide_eq_true (by kernel_rfl)) hk1 bel hl1) (trodAll_cons_mk (Below.trod laidOut (by kernel_rfl) (of_decide_eq_true (by kernel_rfl)) hk2 bel hl2) (trodAll_cons_mk (Below.trod laidOut (by kernel_rfl) (of_decide_eq_true (by kernel_rfl)) hk3 bel hl3) trodAll_mk0)))), rfl, bel.frame _, fun h => by cases h⟩
set_option maxRecDepth 100000 in
theorem facts : joinedFacts Tryd.prog 22 Tryd.f22 Rows.stripeBackSpec Rows.stripeBackRow = true := by
  have e1 : (Rows.stripeBackRow.lifted == Tryd.prog.liftsFinal) = true := by rw [liftsFinal]; rfl
  have e2 : (Tryd.prog.make == some Rows.stripeBackRow.make) = true := by rw [makeCut]; rfl
  have e3 := mayEnter
  unfold joinedFacts
  generalize (Rows.stripeBackRow.lifted == Tryd.prog.liftsFinal) = a1 at *
  generalize (Tryd.prog.make == some Rows.stripeBackRow.make) = a2 at *
  generalize Tryd.prog.mayEnter = a3 at *
  subst e1 e2 e3
  refine Eq.trans (b := true) ?_ rfl
  kernel_rfl
theorem said : Rows.stripeBackRow.holds Tryd.pinned (OpenSpec.ofChange Rows.stripeBackSpec) :=
  OpenClaim.holds_of_cond 22 Tryd.f22 rfl rfl rfl rfl rfl rfl rfl ⟨rfl, rfl, rfl, rfl, rfl⟩ rfl rfl rfl rfl rfl (by kernel_rfl) Tryd.func22 facts
    (of_decide_eq_true (by kernel_rfl)) (by unfold Func.isWrapper; first | (rw [if_pos (by decide +kernel)]; kernel_rfl) | (rw [if_neg (by decide +kernel)]; exact ⟨rfl, rfl⟩))
    (fun os started H enc _ F => by rw [OpenClaim.pre_eq_preRow]; exact lifted os started H enc F)
theorem goes : false = Rows.stripeBackRow.goesBy Tryd.prog := by kernel_rfl
theorem plain (f : FuncId) (fn : Func) (hf : Tryd.pinned.checked.prog.funcNamed "amphora/amphoralaw04.StripeBack" = some f) (hfn : Tryd.pinned.checked.prog.funcs[f]? = some fn) :
    false = Tryd.pinned.checked.prog.looks [] ∧ ∀ (j : Nat) t, fn.params[j]? = some t → Tryd.pinned.checked.prog.wantsStandIn t = false := by
  obtain rfl : f = 22 := Option.some.inj ((show Tryd.prog.funcNamed "amphora/amphoralaw04.StripeBack" = some 22 by kernel_rfl).symm.trans hf) |>.symm
  obtain rfl : fn = Tryd.f22 := (Option.some.inj (Tryd.func22.symm.trans hfn)).symm
  refine ⟨by kernel_rfl, fun j t ht => ?_⟩
  have hm : t ∈ Tryd.f22.params.toList := Array.mem_toList_iff.2 (Array.mem_of_getElem? ht)
  have hall : (Tryd.f22.params.toList.all fun u => !Tryd.prog.wantsStandIn u) = true := by kernel_rfl
  exact (show Tryd.prog.wantsStandIn t = false by simpa using List.all_eq_true.1 hall t hm)
end stripeBack
theorem stripeBack_card : Rows.StripeBackCardSaid :=
  Claim7.holds_tied_plain_at .later [] _ _ _ _ stripeBack.said (fun _ h => by cases h) (by kernel_rfl) (fun _ h => by cases h) stripeBack_row_tie rfl ⟨rfl, rfl⟩ mainIs rfl stripeBack.plain stripeBack.goes
end Go.Proofs.YtibidlgikecelaaDoor
