/- Contract of the law FrameWraps itself. -/
import Derived.Test.YtfcacplecapgfaaF2
import Derived.Test.YtfcacplecapgfaaF3
import Derived.Lib.SlBytesConst
namespace Go.Proofs.Ytfcacplecapgfaa
open Go.RowKit
set_option linter.unusedVariables false
set_option linter.unusedSimpArgs false

theorem at_alloc (w : World) (cs : Array Value) (e : TypeId) (fr : Nat × Nat) : At (w.alloc (.cells cs e fr)) (some ⟨w.heap.size, 0, none⟩) cs.toList := by
  intro i x hx
  refine ⟨_, _, rfl, ?_⟩
  have h := heap_alloc_new w (.cells cs e fr)
  simp only [World.cell?, h, Nat.zero_add]
  simpa using hx

theorem at_lit {w : World} {cs : Array Value} {e : TypeId} {fr : Nat × Nat} {l : List B8} (h : cs.toList = bys l) : At (w.alloc (.cells cs e fr)) (some ⟨w.heap.size, 0, none⟩) (bys l) := by
  rw [← h]; exact at_alloc w cs e fr

theorem crc_digits : crc [49#8, 50#8, 51#8, 52#8, 53#8, 54#8, 55#8, 56#8, 57#8] = 0xe3069283#32 := by decide +kernel

set_option maxHeartbeats 1000000 in
theorem frameWraps_calls {w : World} {A : Option Addr} {n c : Nat} {l : List B8} (hA : At w A (bys l)) (hn : n = l.length) (hnil : A = none → c = 0) (hmax : l.length ≤ 140737488355328) :
    Calls Try.prog 13 #[.slice A n c] w fun e w' => e = .returned (.bool true) ∧ Below w.heap.size w w' := by
  subst hn
  have kc := fun (w : World) (C : Array Value) (n c : Nat) => Lib.run_convert_bytes_const (P := Try.prog) w 28 5 C n c Try.underlying28 Try.underlying5
  have tk1 : True := trivial
  have tk2 : True := trivial
  have tk3 : True := trivial
  have tk4 : True := trivial
  go_enter Try.func13, Try.ntmps13
  go_wp2_with (first
    | (go_at_call 19; refine (clone_calls hA rfl hnil hmax).mono ?_; rintro e w1 ⟨A1, c1, rfl, ho1, HB⟩; have H1 := Below.refl w1.heap.size w1; have hA1 := own_at ho1; have hnil1 := own_nil ho1; have hs1 := HB.size; clear ho1)
    | (go_at_call 20; refine (wrap_calls hA1 rfl hnil1 hmax).mono ?_; rintro e w2 ⟨A2, c2, rfl, ho2, hb⟩; replace HB := HB.trans (hb.mono HB.size); replace H1 := H1.trans hb; clear hb)
    | (go_at_call 32; refine (wrapR_calls (hA.below HB) rfl hnil hmax).mono ?_; rintro e w3 ⟨A3, c3, rfl, ho3, hb⟩; replace HB := HB.trans (hb.mono HB.size); replace H1 := H1.trans (hb.mono H1.size); replace ho2 := own_below ho2 hb; clear hb)
    | (go_at_call 11; clear tk1; refine (equal_calls (own_at ho2) (own_at ho3) rfl rfl).mono ?_; rintro e w4 ⟨rfl, rfl⟩)
    | (go_at_call 33; clear tk2; refine (sum_calls (hA1.below H1) rfl hmax).mono ?_; rintro e w5 ⟨rfl, rfl⟩)
    | (go_at_call 34; refine (sumR_calls (hA.below HB) rfl hmax).mono ?_; rintro e w6 ⟨rfl, rfl⟩))
  refine (spoil_calls (vs := [_]) w1.heap.size (by exact at_alloc _ _ _ _) rfl (by simp) ?hW ?hne).mono ?_
  case hW =>
    intro v hv
    simp only [List.mem_cons, List.not_mem_nil, or_false] at hv
    subst hv
    exact ⟨_, _, own_below ho2 ((Below.refl _ _).alloc (Nat.le_refl _) _)⟩
  case hne =>
    intro b off hb v hv
    simp only [List.mem_cons, List.not_mem_nil, or_false] at hv
    subst hv
    injection hb with hb
    injection hb with hb _
    intro hk
    have := (ho2.lt b hk).2
    omega
  rintro e w7 ⟨rfl, hb⟩
  replace HB := (HB.alloc HB.size (.cells #[.slice A2 (wrapR l).fst.length c2] 28)).trans (hb.mono hs1)
  replace H1 := (H1.alloc H1.size (.cells #[.slice A2 (wrapR l).fst.length c2] 28)).trans hb
  clear hb ho2 ho3
  have tk3 : True := trivial
  have tk4 : True := trivial
  go_wp2_with (first
    | (go_at_call 11; clear tk3; refine (equal_calls (hA1.below H1) (hA.below HB) rfl rfl).mono ?_; rintro e w8 ⟨rfl, rfl⟩)
    | (go_at_call 33; clear tk4; refine (sum_calls (l := [49#8, 50#8, 51#8, 52#8, 53#8, 54#8, 55#8, 56#8, 57#8]) (by exact at_lit rfl) rfl (by decide)).mono ?_; rintro e w9 ⟨rfl, rfl⟩))
  go_ret
  exact ⟨ret_bool (by rw [crc_digits]; rfl), HB.alloc HB.size _⟩

end Go.Proofs.Ytfcacplecapgfaa
