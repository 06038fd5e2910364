/- amphoraplain.SameCmd. -/
import Derived.Test.YtlcchpjficbgmaaC5
namespace Go.Proofs.Ytlcchpjficbgmaa
open Go.RowKit Go.Maps
set_option linter.unusedVariables false
set_option linter.unusedSimpArgs false

set_option maxHeartbeats 2000000 in
set_option maxRecDepth 100000 in
theorem psame_calls {w : World} {x y : Cd} {A B : Option Addr} {n n' a b : Nat} (hA : At w A (ints x.2)) (hB : At w B (ints y.2)) (hn : n = x.2.length) (hn' : n' = y.2.length) (hmax : x.2.length * 8 ≤ 140737488355328) :
    Calls Try.prog 12 #[.agg #[.int .i64 x.1.id, .int .i64 x.1.kind, .string x.1.key, .int .i64 x.1.blob, .int .i64 x.1.other, .int .i64 x.1.index, .int .i64 x.1.node, .int .i64 x.1.size, .int .u32 x.1.sum, .int .i64 x.1.k, .int .i64 x.1.m, .slice A n a], .agg #[.int .i64 y.1.id, .int .i64 y.1.kind, .string y.1.key, .int .i64 y.1.blob, .int .i64 y.1.other, .int .i64 y.1.index, .int .i64 y.1.node, .int .i64 y.1.size, .int .u32 y.1.sum, .int .i64 y.1.k, .int .i64 y.1.m, .slice B n' b]] w (RetV w (.bool (sameB x y))) := by
  obtain ⟨c, l⟩ := x
  obtain ⟨d, k⟩ := y
  have q2 : ∀ w, _ := fun w => eql_code c d w
  have HN := Lib.hid hn
  have HN' := Lib.hid hn'
  clear hn hn'
  go_enter Try.func12, Try.ntmps12
  go_wp2_with (go_at_call 25; refine (iequal_calls (hA.below (below2 _ _ _)) (hB.below (below2 _ _ _)) HN.out HN'.out hmax).mono ?_; rintro e w' ⟨rfl, q, rfl⟩)
  all_goals
    go_ret
    first
      | exact ⟨ret_bool (by simp [sameB, numsB, keyB, *]), below2 _ _ _⟩
      | exact ⟨ret_bool (by simp [sameB, numsB, keyB, *]), (below2 _ _ _).trans (belowN _)⟩

end Go.Proofs.Ytlcchpjficbgmaa
