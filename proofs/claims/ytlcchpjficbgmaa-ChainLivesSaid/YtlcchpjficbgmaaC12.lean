/- slices.EqualFunc of commands by amphoraplain.SameCmd, where both are the same. -/
import Derived.Test.YtlcchpjficbgmaaC10
namespace Go.Proofs.Ytlcchpjficbgmaa
open Go.RowKit Go.Maps
set_option linter.unusedVariables false
set_option linter.unusedSimpArgs false

theorem some_of_at {w : World} {A : Option Addr} {vs : List Value} (h : At w A vs) (hne : 0 < vs.length) : ∃ b off, A = some ⟨b, off, none⟩ := by
  obtain ⟨b, off, he, _⟩ := h 0 vs[0] (List.getElem?_eq_getElem hne)
  exact ⟨b, off, he⟩

set_option maxHeartbeats 1000000 in
set_option maxRecDepth 100000 in
theorem eqf_calls {w : World} {A B : Option Addr} {n a b : Nat} {vs1 vs2 : List Value} {L : List Cd} (hA : At w A vs1) (hB : At w B vs2) (h1 : Cmds w vs1 L) (h2 : Cmds w vs2 L) (hn : n = L.length) (hmax : L.length < 1000000) :
    Calls Try.prog 18 #[.slice A n a, .slice B n b, .func (.func 12) #[] #[]] w (RetV w (.bool true)) := by
  subst hn
  have hl1 := Lib.hid (Cmds.length _ _ h1)
  have hl2 := Lib.hid (Cmds.length _ _ h2)
  go_enter Try.func18, Try.ntmps18
  go_wp2_with fail
  go_loopw [17] (fun s wr => ∃ k : Nat, k ≤ L.length ∧ s = .int .i64 ((k : Nat) : Int) ∧ Below w.heap.size w wr) (fun s _ => L.length - (intOf s).toNat)
  case atStart => exact ⟨0, by omega, rfl, Below.refl _ _⟩
  case round =>
    obtain ⟨k, hk, rfl, hBe⟩ := hrel
    by_cases hlt : k < L.length
    · obtain ⟨x, hx⟩ : ∃ x, L[k]? = some x := ⟨_, List.getElem?_eq_getElem hlt⟩
      obtain ⟨b1, o1, rfl⟩ := some_of_at hA (by rw [hl1.out]; omega)
      obtain ⟨b2, o2, rfl⟩ := some_of_at hB (by rw [hl2.out]; omega)
      obtain ⟨nA, dA, gA, ha, hoA, hbd⟩ := Cmds.at' _ _ k x h1 hA hx
      obtain ⟨nB, dB, gB, hb, hoB, _⟩ := Cmds.at' _ _ k x h2 hB hx
      have ha1 : At wr (some ⟨b1, o1 + k * 12, none⟩) (#[.int .i64 x.1.id, .int .i64 x.1.kind, .string x.1.key, .int .i64 x.1.blob, .int .i64 x.1.other, .int .i64 x.1.index, .int .i64 x.1.node, .int .i64 x.1.size, .int .u32 x.1.sum, .int .i64 x.1.k, .int .i64 x.1.m, .slice nA x.2.length dA].toList) := ha.below hBe
      have hb1 : At wr (some ⟨b2, o2 + k * 12, none⟩) (#[.int .i64 x.1.id, .int .i64 x.1.kind, .string x.1.key, .int .i64 x.1.blob, .int .i64 x.1.other, .int .i64 x.1.index, .int .i64 x.1.node, .int .i64 x.1.size, .int .u32 x.1.sum, .int .i64 x.1.k, .int .i64 x.1.m, .slice nB x.2.length dB].toList) := hb.below hBe
      have hnA := (own_at hoA).below hBe
      have hnB := (own_at hoB).below hBe
      have hki : (k : Int) < (L.length : Int) := by omega
      have hki2 : (L.length : Int) ≤ 1000000 := by omega
      clear hx ha hb hoA hoB
      go_wp2_with (first
        | (refine wpList_load_at rfl 27 (.tmp 20) rfl rfl ha1 Try.underlying27 rfl (by kernel_rfl) ?_)
        | (refine wpList_load_at rfl 27 (.tmp 24) rfl rfl (hb1.below (below1 _ _)) Try.underlying27 rfl (by kernel_rfl) ?_)
        | (go_at_call 12; refine (psame_calls (x := x) (y := x) (hnA.below (below2 _ _ _)) (hnB.below (below2 _ _ _)) rfl rfl (by omega)).mono ?_; rintro e w6 ⟨rfl, hb6⟩; rw [sameB_refl]))
      exact ⟨⟨k + 1, by omega, by go_num, (hBe.trans ((below2 _ _ _).mono hBe.size)).trans (hb6.mono (by simp; have := hBe.size; omega))⟩, by simp [intOf]; omega⟩
    · go_wp2_with fail
      go_ret
      exact ⟨rfl, hBe⟩

end Go.Proofs.Ytlcchpjficbgmaa
