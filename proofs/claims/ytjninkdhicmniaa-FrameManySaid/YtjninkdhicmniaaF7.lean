/- The laws FrameShort, FrameBursts, FrameMany. -/
import Derived.Test.YtjninkdhicmniaaF4
import Derived.Test.YtjninkdhicmniaaF5
namespace Go.Proofs.Ytjninkdhicmniaa
open Go.RowKit
set_option linter.unusedVariables false
set_option linter.unusedSimpArgs false

/-- uint(k) % uint(n) -/
theorem urem (k n : Int) (h : 0 < n) (h2 : n ≤ 1000000) : ∃ r : Nat, (r : Int) < n ∧ wrap64 (Int.tmod (IntKind.u64.wrap k) n) = (r : Int) := by
  have h0 : 0 ≤ IntKind.u64.wrap k := by
    simp [IntKind.wrap, IntKind.bits, IntKind.signed]
    omega
  rw [Int.tmod_eq_emod_of_nonneg h0]
  have h1 := Int.emod_nonneg (IntKind.u64.wrap k) (by omega : n ≠ 0)
  have h3 := Int.emod_lt_of_pos (IntKind.u64.wrap k) h
  refine ⟨(IntKind.u64.wrap k % n).toNat, by omega, ?_⟩
  unfold wrap64
  omega

/-- Wrap of bytes that may be framed, with the length as the caller spells it. -/
theorem wrap_ok {w : World} {A : Option Addr} {n c : Nat} {l : List B8} (hA : At w A (bys l)) (hn : n = l.length) (hnil : A = none → c = 0) (h1 : 1 ≤ n) (h2 : n ≤ 65535) :
    Calls Try.prog 16 #[.slice A n c] w fun e w' => ∃ A' c', e = .returned (.tuple #[.slice A' (n + 7) c', .int .i64 0]) ∧ w'.ownsRow w.heap.size 5 1 (.slice A' (n + 7) c') (n + 7) (bys (wrapF l)) ∧ Below w.heap.size w w' := by
  refine (wrap_calls hA hn hnil (by omega)).mono ?_
  rintro e w' ⟨A', c', rfl, ho, hb⟩
  have hr : wrapR l = (wrapF l, 0) := by unfold wrapR; rw [if_pos (by omega)]
  rw [hr] at ho ⊢
  rw [length_wrapF] at ho ⊢
  subst hn
  exact ⟨A', c', rfl, ho, hb⟩

theorem unwrap_short (l : List B8) (r : Nat) (h0 : 1 ≤ l.length) (h1 : l.length ≤ 65535) (hr : r < l.length + 7) : unwrapF ((wrapF l).take r) = ([], [], 50) := by
  have hl : ((wrapF l).take r).length = r := by rw [List.length_take, length_wrapF]; omega
  have U := unwrapAt ((wrapF l).take r)
  have hg : ∀ k (h : k < r), ((wrapF l).take r)[k]'(by omega) = (wrapF l)[k]'(by rw [length_wrapF]; omega) := fun k h => List.getElem_take
  have h00 : (wrapF l)[0]'(by rw [length_wrapF]; omega) = 0xa3#8 := by simp [wrapF, held]
  by_cases r0 : r = 0
  · exact U.bad0 (by omega)
  by_cases r3 : r < 3
  · exact U.bad2 (by omega) (by rw [hg 0 (by omega), h00]) (by omega)
  have h1' : (wrapF l)[1]'(by rw [length_wrapF]; omega) = BitVec.ofNat 8 (l.length / 256) := by simp [wrapF, held, be16]
  have h2' : (wrapF l)[2]'(by rw [length_wrapF]; omega) = BitVec.ofNat 8 l.length := by simp [wrapF, held, be16]
  have hlen : (((wrapF l).take r)[1]'(by omega)).toNat * 256 + (((wrapF l).take r)[2]'(by omega)).toNat = l.length := by
    rw [hg 1 (by omega), hg 2 (by omega), h1', h2', BitVec.toNat_ofNat, BitVec.toNat_ofNat]
    omega
  exact U.bad4 (by omega) (by rw [hg 0 (by omega), h00]) (by rw [hlen]; omega) (by rw [hlen]; omega)

set_option maxHeartbeats 1000000 in
theorem frameShort_calls {w : World} {A : Option Addr} {n c : Nat} {k : Int} {l : List B8} (hA : At w A (bys l)) (hn : n = l.length) (hnc : n ≤ c) (hnil : A = none → c = 0) (hmax : l.length ≤ 140737488355328) (hk : (Lit.int .i64 k).wf = true) :
    Calls Try.prog 7 #[.slice A n c, .int .i64 k] w fun e w' => e = .returned (.bool true) ∧ Below w.heap.size w w' := by
  subst hn
  have hA1 : At w A (bys (l.take 2000)) := by rw [← bys_take]; exact hA.take 2000
  have e1 := Lib.hid (by rw [List.length_take] : (l.take 2000).length = min 2000 l.length)
  generalize l.take 2000 = L at *
  have hci : (l.length : Int) ≤ c := by omega
  have hc2 : 2000 < (l.length : Int) → (2000 : Int) ≤ c := by omega
  clear hA
  have tk1 : True := trivial
  go_enter Try.func7, Try.ntmps7
  go_wp2_with fail
  all_goals
    refine (clone_calls (l := L) hA1 (by have := e1.out; omega) hnil (by have := e1.out; omega)).mono ?_
    rintro e w1 ⟨A1, c1, rfl, ho1, HB⟩
    clear hc2 hci hnc
    go_wp2_with (first
      | (at_builtin; clear tk1; refine app_bytes rfl (.tmp 14) (.tmp 15) rfl w.heap.size rfl (ho1.alloc _) rfl (news := [1#8]) rfl (by exact at_lit rfl) (by simp) (by omega) ?hbs ?_; (case hbs => (simp; have := HB.size; omega)); intro A2 c2 w2 ho2 hb2 hg2 hc2; clear hg2; replace HB := (HB.alloc HB.size _).trans hb2; clear hb2 ho1))
    have e2 : (L ++ [1#8]).length = L.length + 1 := by simp
    refine (wrap_ok (l := L ++ [1#8]) (own_at ho2) (by have := e1.out; omega) (own_nil ho2) (by omega) (by omega)).mono ?_
    rintro e w3 ⟨A3, c3, rfl, ho3, hb3⟩
    replace HB := HB.trans (hb3.mono HB.size)
    clear hb3 ho2
    obtain ⟨N3, hN⟩ : ∃ N3, N3 = L.length + 8 := ⟨_, rfl⟩
    (first | rw [show (2001 + 7 : Nat) = N3 by have := e1.out; omega] at ho3 ⊢ | rw [show (l.length + 1 + 7 : Nat) = N3 by have := e1.out; omega] at ho3 ⊢)
    have hN8 : N3 ≤ 2008 := by have := e1.out; omega
    obtain ⟨r, hr1, hr2⟩ := urem k N3 (by omega) (by omega)
    have hr3 : (r : Int) ≤ c3 := by have := own_le ho3; omega
    have hr4 : r < N3 := by omega
    have hA3 := (own_at ho3).take r
    rw [bys_take] at hA3
    have hu : IntKind.u64.wrap (N3 : Int) = N3 := by simp [IntKind.wrap, IntKind.bits, IntKind.signed]; omega
    have hz1 : ((N3 : Int) == 0) = false := by simp; omega
    have hz2 : ¬ (N3 : Int) = 0 := by omega
    have e4 := Lib.hid (by rw [List.length_take, length_wrapF, e2]; omega : ((wrapF (L ++ [1#8])).take r).length = r)
    have hun := Lib.hid (unwrap_short (L ++ [1#8]) r (by simp) (by simp; omega) (by simp; omega))
    have hnil3 := own_nil ho3
    have hrc : r ≤ c3 := by omega
    clear e2 hN hr1 ho3
    go_wp2_with fail
    refine (unwrap_calls hA3 e4.out.symm hrc hnil3 (by rw [e4.out]; omega)).mono ?_
    rintro e w4 ⟨A4, c4, A5, c5, rfl, ho4, ho5, hb4⟩
    rw [hun.out] at *
    go_wp2_with fail
    go_ret
    exact ⟨rfl, HB.trans (hb4.mono HB.size)⟩

end Go.Proofs.Ytjninkdhicmniaa
