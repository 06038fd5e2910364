/- Contract of the law FrameUnwraps itself. -/
import Derived.Test.YtjninkdhicmniaaF4
import Derived.Test.YtjninkdhicmniaaF5
import Derived.Test.YtjninkdhicmniaaF6
namespace Go.Proofs.Ytjninkdhicmniaa
open Go.RowKit
set_option linter.unusedVariables false
set_option linter.unusedSimpArgs false

set_option maxHeartbeats 1000000 in
theorem frameUnwraps_calls {w : World} {A : Option Addr} {n c : Nat} {l : List B8} (hA : At w A (bys l)) (hn : n = l.length) (hnc : n ≤ c) (hnil : A = none → c = 0) (hmax : l.length ≤ 140737488355328) :
    Calls Try.prog 5 #[.slice A n c] w fun e w' => e = .returned (.bool true) ∧ Below w.heap.size w w' := by
  subst hn
  have C1 : ∀ {w : World} {A : Option Addr} {c : Nat}, At w A (bys l) → l.length ≤ c → (A = none → c = 0) → Calls Try.prog 22 #[.slice A l.length c] w (RetU w (unwrapF l)) := fun hA h1 h2 => unwrap_calls hA rfl h1 h2 hmax
  have C2 : ∀ {w : World} {A : Option Addr} {c : Nat}, At w A (bys l) → l.length ≤ c → Calls Try.prog 23 #[.slice A l.length c] w (RetU w (unwrapF l)) := fun hA h1 => unwrapR_calls hA rfl h1 hmax
  generalize unwrapF l = r at C1 C2
  obtain ⟨x, y, k⟩ := r
  have hbn : (k != k) = false := by simp
  have tk1 : True := trivial
  have tk2 : True := trivial
  go_enter Try.func5, Try.ntmps5
  go_wp2_with (first
    | (go_at_call 15; refine (clone_calls hA rfl hnil hmax).mono ?_; rintro e w1 ⟨A1, c1, rfl, ho1, HB⟩; have H1 := Below.refl w1.heap.size w1; have hA1 := own_at ho1; have hnil1 := own_nil ho1; have hs1 := HB.size; have hcap1 := own_le ho1; clear ho1)
    | (go_at_call 22; refine (C1 hA1 hcap1 hnil1).mono ?_; rintro e w2 ⟨A2, c2, A3, c3, rfl, ho2, ho3, hb⟩; replace HB := HB.trans (hb.mono HB.size); replace H1 := H1.trans hb; clear hb)
    | (go_at_call 23; refine (C2 (hA.below HB) hnc).mono ?_; rintro e w3 ⟨A4, c4, A5, c5, rfl, ho4, ho5, hb⟩; replace HB := HB.trans (hb.mono HB.size); replace H1 := H1.trans (hb.mono H1.size); replace ho2 := own_below ho2 hb; replace ho3 := own_below ho3 hb; clear hb)
    | (go_at_call 18; clear tk1; refine (equal_calls (own_at ho2) (own_at ho4) rfl rfl).mono ?_; rintro e w4 ⟨he, rfl⟩; replace he : e = .returned (.bool true) := he.trans (by simp); subst he)
    | (go_at_call 18; clear tk2; refine (equal_calls (own_at ho3) (own_at ho5) rfl rfl).mono ?_; rintro e w5 ⟨he, rfl⟩; replace he : e = .returned (.bool true) := he.trans (by simp); subst he))
  refine (spoil_calls (vs := [_, _]) w1.heap.size (by exact at_alloc _ _ _ _) rfl (by simp) ?hW ?hne).mono ?_
  case hW =>
    intro v hv
    simp only [List.mem_cons, List.not_mem_nil, or_false] at hv
    rcases hv with rfl | rfl
    · exact ⟨_, _, own_below ho2 ((Below.refl _ _).alloc (Nat.le_refl _) _)⟩
    · exact ⟨_, _, own_below ho3 ((Below.refl _ _).alloc (Nat.le_refl _) _)⟩
  case hne =>
    intro b off hb v hv
    simp only [List.mem_cons, List.not_mem_nil, or_false] at hv
    injection hb with hb
    injection hb with hb _
    rcases hv with rfl | rfl
    · intro hk
      have := (ho2.lt b hk).2
      omega
    · intro hk
      have := (ho3.lt b hk).2
      omega
  rintro e w7 ⟨rfl, hb⟩
  replace HB := (HB.alloc HB.size (.cells #[.slice A2 x.length c2, .slice A3 y.length c3] 28)).trans (hb.mono hs1)
  replace H1 := (H1.alloc H1.size (.cells #[.slice A2 x.length c2, .slice A3 y.length c3] 28)).trans hb
  clear hb ho2 ho3 ho4 ho5
  have tk3 : True := trivial
  go_wp2_with (first
    | (go_at_call 18; clear tk3; refine (equal_calls (hA1.below H1) (hA.below HB) rfl rfl).mono ?_; rintro e w8 ⟨he, rfl⟩; replace he : e = .returned (.bool true) := he.trans (by simp); subst he)
    | (go_at_call 4; refine (frameWraps_calls (l := []) (At.nil _ _) rfl (fun _ => rfl) (by decide)).mono ?_; rintro e w9 ⟨rfl, hb⟩; replace HB := HB.trans (hb.mono HB.size); clear hb))
  go_ret
  exact ⟨ret_bool rfl, HB⟩

end Go.Proofs.Ytjninkdhicmniaa
