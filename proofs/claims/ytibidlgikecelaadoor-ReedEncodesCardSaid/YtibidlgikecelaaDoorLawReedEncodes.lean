/- ReedEncodes: for every code c and every list of texts data the law amphoralaw03.ReedEncodes returns true (all shards of the data, or the error, of anything; the data stay), and the arguments read afterwards as they read before. Condition: the table galois.fold reads as the program's text lays it; the card ties it to that text. -/
import Derived.Test.YtibidlgikecelaaDoorRows
import Derived.Test.YtibidlgikecelaaDoorT20
import Derived.Test.YtibidlgikecelaaDoorLL
import Derived.Test.YtibidlgikecelaaDoorLT
import Derived.Test.YtibidlgikecelaaDoorLS
namespace Go.Proofs.YtibidlgikecelaaDoor
namespace reedEncodes
open Go.ChangeShapes Go.WideShapes Go.ChangeAt Go.RowKit
set_option linter.unusedVariables false
theorem own : ownKnob Tryd.prog.godebug = none := by kernel_rfl
theorem laidOut : laidOutB Tryd.prog = true := by kernel_rfl
theorem reads (os : Os) {H : Type} (enc : TypeId × Value → H) : ∃ places, DataW.whole enc Tryd.prog ((laidWorld os).forCall (fun _ _ => 0) ⟨#[], #[.agg #[.int .i64 0, .int .i64 0], .slice none 0 0], []⟩).memory Tryd.f8.params.toList Rows.reedEncodesSpec.vars false #[.agg #[.int .i64 0, .int .i64 0], .slice none 0 0].toList 8 = some ([.agg [.lit (.int .i64 0), .lit (.int .i64 0)], .nil], [], places) :=
  ⟨[], by kernel_rfl⟩
set_option maxRecDepth 100000 in
theorem lifted (os : Os) (started : os.Started) (H : Type) (enc : TypeId × Value → H) (F : Stop.Interp) :
    ReturnsInHanded {} Tryd.checked os 8 .any ((OpenSpec.ofChange Rows.reedEncodesSpec).preRow enc Tryd.prog Tryd.f8 Rows.reedEncodesRow.domain false Rows.reedEncodesRow.laid) (((OpenSpec.ofChange Rows.reedEncodesSpec).at F).post enc Tryd.prog Tryd.f8 false true false false) := by
  obtain ⟨places, hx⟩ := reads os enc
  refine returnsInHanded_of_row (C := Tryd.checked) (s := OpenSpec.ofChange Rows.reedEncodesSpec) own started (by kernel_rfl) Tryd.func8
    (witness_row_at (enc := enc) (C := Tryd.checked) false (laidWorld os) #[.agg #[.int .i64 0, .int .i64 0], .slice none 0 0] rfl (by kernel_rfl) (by kernel_rfl) (by kernel_rfl)
      (OpenSpec.preRow_of_cond 8 hx (by kernel_rfl) (fun k hk => by cases hk) (by kernel_rfl) (laid_met os _))) ?_
  intro W base args ds gs before hval0 hW _ _ hsz0 hL _ _
  have hsz : (DataW.weightsEach Tryd.prog (Tryd.f8.params.toList ++ Rows.reedEncodesSpec.plain.varTypes Tryd.prog) (ds ++ gs)).all (· ≤ reachBytes) = true := hsz0
  have hval : ∀ (j : Nat) t v, Tryd.f8.params[j]? = some t → args[j]? = some v → Value.okWide Tryd.prog W .any base t v := hval0
  have hF : FoldAt W := fold_of hL
  have hW' := hW
  obtain ⟨p, q, hA0, hV, rfl, hfz, hnd⟩ := hW
  have hA : DataW.TrodAll enc Tryd.prog W 0 (fun _ => true) true Tryd.f8.params.toList args.toList ds p := hA0
  rw [Tryd.params8] at hA hval hsz
  obtain ⟨v0, vs0, d0, ds0, p0, q0, hargs, rfl, rfl, h0, r0⟩ := trodAll_cons hA
  obtain ⟨v1, vs1, d1, ds1, p1, q1, rfl, rfl, rfl, h1, r1⟩ := trodAll_cons r0
  obtain ⟨rfl, rfl, rfl⟩ := trodAll_nil r1
  obtain rfl : args = #[v0, v1] := by cases args; simp_all
  obtain ⟨rfl, rfl⟩ := trodVars_none hV
  have hl0 := trod_lt h0
  have hk0 := h0
  have hl1 := trod_lt h1
  have hk1 := h1
  obtain ⟨K, M, rfl, f1, f2⟩ := open_code (hval 0 38 v0 rfl rfl) h0
  obtain ⟨A, n, c, vs, LL, rfl, hn, hAt, hnil, hmax, hnc, hT⟩ := open_texts (j := 1) Tryd.underlying24 (by kernel_rfl) (by kernel_rfl) Tryd.underlying22 Tryd.underlying5 (by kernel_rfl) (by kernel_rfl) (hval 1 24 v1 rfl rfl) h1 hsz rfl rfl
  have k1 := hT.1
  refine (reedEncodes_calls hAt hT (by omega) (by omega) hnc hF).mono fun e W' ⟨he, bel⟩ => ?_
  subst he
  exact ⟨_, rfl, _, _, _, [], _, [], hW', trodAll_mk1 (shut_bool Tryd.underlying4 _), (trodAll_cons_mk (Below.trod laidOut (by kernel_rfl) (of_decide_eq_true (by kernel_rfl)) hk0 bel hl0) (trodAll_cons_mk (Below.trod laidOut (by kernel_rfl) (of_decide_eq_true (by kernel_rfl)) hk1 bel hl1) trodAll_mk0)), rfl, bel.frame _, fun h => by cases h⟩
set_option maxRecDepth 100000 in
theorem facts : joinedFacts Tryd.prog 8 Tryd.f8 Rows.reedEncodesSpec Rows.reedEncodesRow = true := by
  have e1 : (Rows.reedEncodesRow.lifted == Tryd.prog.liftsFinal) = true := by rw [liftsFinal]; rfl
  have e2 : (Tryd.prog.make == some Rows.reedEncodesRow.make) = true := by rw [makeCut]; rfl
  have e3 := mayEnter
  unfold joinedFacts
  generalize (Rows.reedEncodesRow.lifted == Tryd.prog.liftsFinal) = a1 at *
  generalize (Tryd.prog.make == some Rows.reedEncodesRow.make) = a2 at *
  generalize Tryd.prog.mayEnter = a3 at *
  subst e1 e2 e3
  refine Eq.trans (b := true) ?_ rfl
  kernel_rfl
theorem said : Rows.reedEncodesRow.holds Tryd.pinned (OpenSpec.ofChange Rows.reedEncodesSpec) :=
  OpenClaim.holds_of_cond 8 Tryd.f8 rfl rfl rfl rfl rfl rfl rfl ⟨rfl, rfl, rfl, rfl, rfl⟩ rfl rfl rfl rfl rfl (by kernel_rfl) Tryd.func8 facts
    (of_decide_eq_true (by kernel_rfl)) (by unfold Func.isWrapper; first | (rw [if_pos (by decide +kernel)]; kernel_rfl) | (rw [if_neg (by decide +kernel)]; exact ⟨rfl, rfl⟩))
    (fun os started H enc _ F => by rw [OpenClaim.pre_eq_preRow]; exact lifted os started H enc F)
theorem goes : false = Rows.reedEncodesRow.goesBy Tryd.prog := by kernel_rfl
theorem plain (f : FuncId) (fn : Func) (hf : Tryd.pinned.checked.prog.funcNamed "amphora/amphoralaw03.ReedEncodes" = some f) (hfn : Tryd.pinned.checked.prog.funcs[f]? = some fn) :
    false = Tryd.pinned.checked.prog.looks [] ∧ ∀ (j : Nat) t, fn.params[j]? = some t → Tryd.pinned.checked.prog.wantsStandIn t = false := by
  obtain rfl : f = 8 := Option.some.inj ((show Tryd.prog.funcNamed "amphora/amphoralaw03.ReedEncodes" = some 8 by kernel_rfl).symm.trans hf) |>.symm
  obtain rfl : fn = Tryd.f8 := (Option.some.inj (Tryd.func8.symm.trans hfn)).symm
  refine ⟨by kernel_rfl, fun j t ht => ?_⟩
  have hm : t ∈ Tryd.f8.params.toList := Array.mem_toList_iff.2 (Array.mem_of_getElem? ht)
  have hall : (Tryd.f8.params.toList.all fun u => !Tryd.prog.wantsStandIn u) = true := by kernel_rfl
  exact (show Tryd.prog.wantsStandIn t = false by simpa using List.all_eq_true.1 hall t hm)
end reedEncodes
theorem reedEncodes_card : Rows.ReedEncodesCardSaid :=
  Claim7.holds_tied_plain_at .later [] _ _ _ _ reedEncodes.said (fun _ h => by cases h) (by kernel_rfl) (fun _ h => by cases h) reedEncodes_row_tie rfl ⟨rfl, rfl⟩ mainIs rfl reedEncodes.plain reedEncodes.goes
end Go.Proofs.YtibidlgikecelaaDoor
