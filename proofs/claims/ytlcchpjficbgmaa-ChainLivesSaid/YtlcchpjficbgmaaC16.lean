/- The document's chain: Next, From. -/
import Derived.Test.YtlcchpjficbgmaaC15
namespace Go.Proofs.Ytlcchpjficbgmaa
open Go.RowKit Go.Maps
set_option linter.unusedVariables false
set_option linter.unusedSimpArgs false

/-- A get's answer, whatever command it is. -/
theorem rget_any {w : World} {B q : Nat} {S : List (Int × Cd)} {i : Int} (h : RChain w B q S) (hS : S.length < 1000000) :
    Calls Try.prog 17 #[.pointer (some ⟨q, 0, none⟩), .int .i64 i] w (RetAny w (look S i).isSome) := by
  refine (rget_calls (i := i) h hS).mono fun e w' he => ?_
  cases hl : look S i with
  | none => rw [hl] at he; exact ⟨_, _, _, _, he.1, he.2⟩
  | some x => rw [hl] at he; obtain ⟨A, d, h1, h2, h3⟩ := he; exact ⟨_, _, _, _, h1, h3⟩

def NLoop (w : World) (B q : Nat) (S : List (Int × Cd)) (nx : Int) (s : Value) (wr : World) : Prop :=
  ∃ k : Nat, 1 ≤ k ∧ (k : Int) ≤ nx ∧ s = .int .i64 ((k : Nat) : Int) ∧ Below w.heap.size w wr

set_option maxHeartbeats 1000000 in
set_option maxRecDepth 100000 in
theorem rnext_calls {w : World} {B q : Nat} {S : List (Int × Cd)} {nx : Int} (h : RChain w B q S) (hS : S.length < 1000000) (hnx : 1 ≤ nx) (hn2 : nx ≤ 1152921504606846977)
    (hall : ∀ j, 1 ≤ j → j < nx → look S j ≠ none) (hno : look S nx = none) :
    Calls Try.prog 16 #[.pointer (some ⟨q, 0, none⟩)] w (RetV w (.int .i64 nx)) := by
  have HALL := Lib.hid hall
  have HNO := Lib.hid hno
  clear hall hno
  go_enter Try.func16, Try.ntmps16
  go_wp2_with fail
  go_loopw [3] (fun s wr => NLoop w B q S nx s wr) (fun s _ => (nx - intOf s).toNat)
  case atStart => exact ⟨1, by omega, by omega, rfl, Below.refl _ _⟩
  case round =>
    obtain ⟨k, hk1, hk2, rfl, hB⟩ := hrel
    have hR : RChain wr B q S := h.below hB
    by_cases hk : (k : Int) < nx
    · have hs := Lib.hid (by have := HALL.out k (by omega) hk; cases hl : look S k with
        | none => exact absurd hl this
        | some x => rfl : (look S (k : Int)).isSome = true)
      go_wp2_with (go_at_call 17; refine (rget_any hR hS).mono ?_; rw [hs.out]; rintro e w3 ⟨cc, nA, nl, nc, rfl, hb3⟩)
      exact ⟨⟨k + 1, by omega, by omega, by go_num, (hB.trans (hb3.mono hB.size)).trans ((below1 _ _).mono (Nat.le_trans hB.size hb3.size))⟩, by simp [intOf]; omega⟩
    · obtain hk : (k : Int) = nx := by omega
      have hs := Lib.hid (by rw [hk, HNO.out]; rfl : (look S (k : Int)).isSome = false)
      have HK := Lib.hid hk
      clear hk
      go_wp2_with (go_at_call 17; refine (rget_any hR hS).mono ?_; rw [hs.out]; rintro e w3 ⟨cc, nA, nl, nc, rfl, hb3⟩)
      go_ret
      exact ⟨by rw [HK.out]; rfl, (hB.trans (hb3.mono hB.size)).trans ((below1 _ _).mono (Nat.le_trans hB.size hb3.size))⟩

/-- What the loop of the document's From keeps. -/
def RFLoop (w : World) (B q : Nat) (S : List (Int × Cd)) (k : Nat) (n0 : Int) (g : Nat) (s7 s8 : Value) (wr : World) : Prop :=
  ∃ (j : Nat) (L : List Cd) (A : Option Addr) (n d : Nat) (vs : List Value), RChain wr B q S ∧ g + j = S.length + 1 ∧ s8 = .int .i64 (n0 + j) ∧ s7 = .slice A n d ∧ n = j ∧ runL S k n0 = L ++ runL S (k - j) (n0 + j) ∧
    wr.ownsRow w.heap.size 27 12 (.slice A n d) n vs ∧ (Cmds wr vs L ∧ L.length = j) ∧ Below w.heap.size w wr ∧ ∀ t : Nat, t < j → look S (n0 + t) ≠ none
theorem keys_wf {S : List (Int × Cd)} {n0 : Int} {j : Nat} (hkeys : ∀ e, e ∈ S → 1 ≤ e.1 ∧ e.1 ≤ 1152921504606846976) (hn : 1 ≤ n0 ∧ n0 ≤ 9223372036854775807) (hall : ∀ t : Nat, t < j → look S (n0 + t) ≠ none) :
    1 ≤ n0 + (j : Int) ∧ n0 + (j : Int) ≤ 9223372036854775807 := by
  rcases Nat.eq_zero_or_pos j with h0 | h0
  · subst h0; simpa using hn
  · obtain ⟨e, he, h1⟩ := look_some (hall (j - 1) (by omega))
    have := (hkeys e he).2
    omega
theorem look_some' {S : List (Int × Cd)} {i : Int} {x : Cd} (h : look S i = some x) : ∃ e, e ∈ S ∧ e.1 = i ∧ e.2 = x := by
  unfold look at h
  obtain ⟨e, he, rfl⟩ := Option.map_eq_some_iff.1 h
  exact ⟨e, List.mem_of_find?_eq_some he, by simpa using List.find?_some he, rfl⟩

set_option maxHeartbeats 1000000 in
set_option maxRecDepth 100000 in
theorem rfrom_lo {w : World} {B q : Nat} {S : List (Int × Cd)} {slot most : Int} (h : RChain w B q S) (hS : S.length < 1000000) (hkeys : ∀ e, e ∈ S → 1 ≤ e.1 ∧ e.1 ≤ 1152921504606846976) (hmx : ∀ e, e ∈ S → e.2.2.length * 8 ≤ 140737488351232) (h1 : (Lit.int .i64 slot).wf = true) (h2 : (Lit.int .i64 most).wf = true) (hs : slot < 1) :
    Calls Try.prog 19 #[.pointer (some ⟨q, 0, none⟩), .int .i64 slot, .int .i64 most] w (RetF w (runL S most.toNat 1)) := by
  have hnn := Lib.hid (by have := wf_int h1; omega : (1 : Int) ≤ 1 ∧ 1 ≤ (9223372036854775807 : Int))
  go_enter Try.func19, Try.ntmps19
  go_wp2_with fail
  go_loopg [7, 8] (S.length + 1) (fun g s7 s8 wr => RFLoop w B q S most.toNat 1 g s7 s8 wr)
  case atStart => exact ⟨0, [], none, 0, 0, [], h, rfl, int_eq (by simp), rfl, rfl, by simp, World.ownsRow_nil _ _ _ _, ⟨rfl, rfl⟩, Below.refl _ _, by intro t ht; omega⟩
  case round =>
    obtain ⟨j, L, A, n, d, vs, hch, hg, rfl, rfl, rfl, hL, ho, hvs, hB, hall⟩ := hrel
    have hnb := keys_wf hkeys hnn.out hall
    have hwf : (Lit.int .i64 (1 + (n : Int))).wf = true := WalkArith.wf_i64 (by omega)
    have hnS := run_le n S 1 hall
    have hA := Lib.hid hall
    clear hall
    by_cases hlt : (n : Int) < most
    · cases hl : look S (1 + n) with
      | none =>
        have HF := Lib.hid (from_stop (k := most.toNat) (n := 1) (j := n) hL (by omega) hl)
        have HX := Lib.hid hl
        clear hL hl
        go_wp2_with (go_at_call 17; refine (rget_calls hch hS).mono ?_; rw [HX.out]; rintro e w3 ⟨rfl, hb3⟩; unfold cmv)
        go_ret
        rw [HF.out]
        have hbb : Below wr.heap.size wr (w3.alloc (.cells #[.int .i64 cm0.id, .int .i64 cm0.kind, .string cm0.key, .int .i64 cm0.blob, .int .i64 cm0.other, .int .i64 cm0.index, .int .i64 cm0.node, .int .i64 cm0.size, .int .u32 cm0.sum, .int .i64 cm0.k, .int .i64 cm0.m, .slice none 0 0] 27)) := hb3.alloc hb3.size _
        exact ⟨A, n, d, vs, rfl, hvs.2.symm, own_below ho hbb, Cmds.below hbb _ _ hvs.1, hB.trans (hbb.mono hB.size)⟩
      | some x =>
        have HX := Lib.hid hl
        have HL := Lib.hid (from_more (k := most.toNat) (n := 1) (j := n) hL (by omega) hl)
        obtain ⟨ee, hee1, hee2, hee3⟩ := look_some' hl
        have hbd : x.2.length * 8 ≤ 140737488351232 := by have := hmx ee hee1; rwa [hee3] at this
        have hle := (hkeys ee hee1).2
        rw [hee2] at hle
        clear hee1 hee2 hee3
        clear hL hl
        obtain ⟨c, l⟩ := x
        go_wp2_with (first
          | (go_at_call 17; refine (rget_calls hch hS).mono ?_; rw [HX.out]; rintro e w3 ⟨A1, d1, rfl, ho1, hb3⟩; unfold cmv; have hz3 := hb3.size; have hzB := hB.size)
          | (at_builtin; refine app_cmd rfl (.tmp 27) (.tmp 29) rfl w.heap.size rfl (own_below ho ((hb3.alloc hb3.size _).alloc (by simp; omega) _)) rfl (news := cmc c (.slice A1 l.length d1)) rfl (by exact at_new2 w3 _ #[.int .i64 c.id, .int .i64 c.kind, .string c.key, .int .i64 c.blob, .int .i64 c.other, .int .i64 c.index, .int .i64 c.node, .int .i64 c.size, .int .u32 c.sum, .int .i64 c.k, .int .i64 c.m, .slice A1 l.length d1] _ _) (cmc_one _ _ _ _) (by simp) (by omega) (by simp; omega) ?_; intro A' c' w4 ho4 hb4 hg4 hc4))
        have hbb : Below wr.heap.size wr ((w3.alloc (.cells #[.int .i64 c.id, .int .i64 c.kind, .string c.key, .int .i64 c.blob, .int .i64 c.other, .int .i64 c.index, .int .i64 c.node, .int .i64 c.size, .int .u32 c.sum, .int .i64 c.k, .int .i64 c.m, .slice A1 l.length d1] 27)).alloc (.cells #[.int .i64 c.id, .int .i64 c.kind, .string c.key, .int .i64 c.blob, .int .i64 c.other, .int .i64 c.index, .int .i64 c.node, .int .i64 c.size, .int .u32 c.sum, .int .i64 c.k, .int .i64 c.m, .slice A1 l.length d1] 27)) := (hb3.alloc hb3.size _).alloc (by simp; omega) _
        have how := own_below ho hbb
        have hmid : Below w3.heap.size w3 ((w3.alloc (.cells #[.int .i64 c.id, .int .i64 c.kind, .string c.key, .int .i64 c.blob, .int .i64 c.other, .int .i64 c.index, .int .i64 c.node, .int .i64 c.size, .int .u32 c.sum, .int .i64 c.k, .int .i64 c.m, .slice A1 l.length d1] 27)).alloc (.cells #[.int .i64 c.id, .int .i64 c.kind, .string c.key, .int .i64 c.blob, .int .i64 c.other, .int .i64 c.index, .int .i64 c.node, .int .i64 c.size, .int .u32 c.sum, .int .i64 c.k, .int .i64 c.m, .slice A1 l.length d1] 27)) := below2 _ _ _
        have ho1w := own_below ho1 hmid
        have hvw := Cmds.grown how hg4.1 _ _ (Cmds.below hbb _ _ hvs.1)
        have ho1x := own_grown ho1w hg4.1 (own_ne how ho1w (by decide))
        have hwx : Below w4.heap.size w4 w4 := Below.refl _ _
        have hBB := (hB.trans (hbb.mono hB.size)).trans hb4
        go_roundg (gk - 1)
        case measure => omega
        case rel =>
          refine ⟨n + 1, L ++ [(c, l)], A', n + 1, c', _, h.below hBB, by omega, int_eq (by omega), rfl, rfl, HL.out, ho4, ⟨Cmds.snoc (x := (c, l)) ho1x hbd _ _ hvw, by simp [hvs.2]⟩, hBB, ?_⟩
          · intro t ht
            by_cases htn : t < n
            · exact hA.out t htn
            · obtain rfl : t = n := by omega
              rw [HX.out]; simp
    · have HF := Lib.hid (by rw [hL, show most.toNat - n = 0 by omega]; simp [runL] : runL S most.toNat 1 = L)
      clear hL
      go_wp2_with fail
      go_ret
      rw [HF.out]
      exact ⟨A, n, d, vs, rfl, hvs.2.symm, ho, hvs.1, hB⟩
set_option maxHeartbeats 1000000 in
set_option maxRecDepth 100000 in
theorem rfrom_hi {w : World} {B q : Nat} {S : List (Int × Cd)} {slot most : Int} (h : RChain w B q S) (hS : S.length < 1000000) (hkeys : ∀ e, e ∈ S → 1 ≤ e.1 ∧ e.1 ≤ 1152921504606846976) (hmx : ∀ e, e ∈ S → e.2.2.length * 8 ≤ 140737488351232) (h1 : (Lit.int .i64 slot).wf = true) (h2 : (Lit.int .i64 most).wf = true) (hs : 1 ≤ slot) :
    Calls Try.prog 19 #[.pointer (some ⟨q, 0, none⟩), .int .i64 slot, .int .i64 most] w (RetF w (runL S most.toNat slot)) := by
  have hnn := Lib.hid (by have := wf_int h1; omega : (1 : Int) ≤ slot ∧ slot ≤ (9223372036854775807 : Int))
  go_enter Try.func19, Try.ntmps19
  go_wp2_with fail
  go_loopg [7, 8] (S.length + 1) (fun g s7 s8 wr => RFLoop w B q S most.toNat slot g s7 s8 wr)
  case atStart => exact ⟨0, [], none, 0, 0, [], h, rfl, int_eq (by simp), rfl, rfl, by simp, World.ownsRow_nil _ _ _ _, ⟨rfl, rfl⟩, Below.refl _ _, by intro t ht; omega⟩
  case round =>
    obtain ⟨j, L, A, n, d, vs, hch, hg, rfl, rfl, rfl, hL, ho, hvs, hB, hall⟩ := hrel
    have hnb := keys_wf hkeys hnn.out hall
    have hwf : (Lit.int .i64 (slot + (n : Int))).wf = true := WalkArith.wf_i64 (by omega)
    have hnS := run_le n S slot hall
    have hA := Lib.hid hall
    clear hall
    by_cases hlt : (n : Int) < most
    · cases hl : look S (slot + n) with
      | none =>
        have HF := Lib.hid (from_stop (k := most.toNat) (n := slot) (j := n) hL (by omega) hl)
        have HX := Lib.hid hl
        clear hL hl
        go_wp2_with (go_at_call 17; refine (rget_calls hch hS).mono ?_; rw [HX.out]; rintro e w3 ⟨rfl, hb3⟩; unfold cmv)
        go_ret
        rw [HF.out]
        have hbb : Below wr.heap.size wr (w3.alloc (.cells #[.int .i64 cm0.id, .int .i64 cm0.kind, .string cm0.key, .int .i64 cm0.blob, .int .i64 cm0.other, .int .i64 cm0.index, .int .i64 cm0.node, .int .i64 cm0.size, .int .u32 cm0.sum, .int .i64 cm0.k, .int .i64 cm0.m, .slice none 0 0] 27)) := hb3.alloc hb3.size _
        exact ⟨A, n, d, vs, rfl, hvs.2.symm, own_below ho hbb, Cmds.below hbb _ _ hvs.1, hB.trans (hbb.mono hB.size)⟩
      | some x =>
        have HX := Lib.hid hl
        have HL := Lib.hid (from_more (k := most.toNat) (n := slot) (j := n) hL (by omega) hl)
        obtain ⟨ee, hee1, hee2, hee3⟩ := look_some' hl
        have hbd : x.2.length * 8 ≤ 140737488351232 := by have := hmx ee hee1; rwa [hee3] at this
        have hle := (hkeys ee hee1).2
        rw [hee2] at hle
        clear hee1 hee2 hee3
        clear hL hl
        obtain ⟨c, l⟩ := x
        go_wp2_with (first
          | (go_at_call 17; refine (rget_calls hch hS).mono ?_; rw [HX.out]; rintro e w3 ⟨A1, d1, rfl, ho1, hb3⟩; unfold cmv; have hz3 := hb3.size; have hzB := hB.size)
          | (at_builtin; refine app_cmd rfl (.tmp 27) (.tmp 29) rfl w.heap.size rfl (own_below ho ((hb3.alloc hb3.size _).alloc (by simp; omega) _)) rfl (news := cmc c (.slice A1 l.length d1)) rfl (by exact at_new2 w3 _ #[.int .i64 c.id, .int .i64 c.kind, .string c.key, .int .i64 c.blob, .int .i64 c.other, .int .i64 c.index, .int .i64 c.node, .int .i64 c.size, .int .u32 c.sum, .int .i64 c.k, .int .i64 c.m, .slice A1 l.length d1] _ _) (cmc_one _ _ _ _) (by simp) (by omega) (by simp; omega) ?_; intro A' c' w4 ho4 hb4 hg4 hc4))
        have hbb : Below wr.heap.size wr ((w3.alloc (.cells #[.int .i64 c.id, .int .i64 c.kind, .string c.key, .int .i64 c.blob, .int .i64 c.other, .int .i64 c.index, .int .i64 c.node, .int .i64 c.size, .int .u32 c.sum, .int .i64 c.k, .int .i64 c.m, .slice A1 l.length d1] 27)).alloc (.cells #[.int .i64 c.id, .int .i64 c.kind, .string c.key, .int .i64 c.blob, .int .i64 c.other, .int .i64 c.index, .int .i64 c.node, .int .i64 c.size, .int .u32 c.sum, .int .i64 c.k, .int .i64 c.m, .slice A1 l.length d1] 27)) := (hb3.alloc hb3.size _).alloc (by simp; omega) _
        have how := own_below ho hbb
        have hmid : Below w3.heap.size w3 ((w3.alloc (.cells #[.int .i64 c.id, .int .i64 c.kind, .string c.key, .int .i64 c.blob, .int .i64 c.other, .int .i64 c.index, .int .i64 c.node, .int .i64 c.size, .int .u32 c.sum, .int .i64 c.k, .int .i64 c.m, .slice A1 l.length d1] 27)).alloc (.cells #[.int .i64 c.id, .int .i64 c.kind, .string c.key, .int .i64 c.blob, .int .i64 c.other, .int .i64 c.index, .int .i64 c.node, .int .i64 c.size, .int .u32 c.sum, .int .i64 c.k, .int .i64 c.m, .slice A1 l.length d1] 27)) := below2 _ _ _
        have ho1w := own_below ho1 hmid
        have hvw := Cmds.grown how hg4.1 _ _ (Cmds.below hbb _ _ hvs.1)
        have ho1x := own_grown ho1w hg4.1 (own_ne how ho1w (by decide))
        have hwx : Below w4.heap.size w4 w4 := Below.refl _ _
        have hBB := (hB.trans (hbb.mono hB.size)).trans hb4
        go_roundg (gk - 1)
        case measure => omega
        case rel =>
          refine ⟨n + 1, L ++ [(c, l)], A', n + 1, c', _, h.below hBB, by omega, int_eq (by omega), rfl, rfl, HL.out, ho4, ⟨Cmds.snoc (x := (c, l)) ho1x hbd _ _ hvw, by simp [hvs.2]⟩, hBB, ?_⟩
          · intro t ht
            by_cases htn : t < n
            · exact hA.out t htn
            · obtain rfl : t = n := by omega
              rw [HX.out]; simp
    · have HF := Lib.hid (by rw [hL, show most.toNat - n = 0 by omega]; simp [runL] : runL S most.toNat slot = L)
      clear hL
      go_wp2_with fail
      go_ret
      rw [HF.out]
      exact ⟨A, n, d, vs, rfl, hvs.2.symm, ho, hvs.1, hB⟩
theorem rfrom_calls {w : World} {B q : Nat} {S : List (Int × Cd)} {slot most : Int} (h : RChain w B q S) (hS : S.length < 1000000) (hk : ∀ e, e ∈ S → 1 ≤ e.1 ∧ e.1 ≤ 1152921504606846976) (hmx : ∀ e, e ∈ S → e.2.2.length * 8 ≤ 140737488351232) (h1 : (Lit.int .i64 slot).wf = true) (h2 : (Lit.int .i64 most).wf = true) :
    Calls Try.prog 19 #[.pointer (some ⟨q, 0, none⟩), .int .i64 slot, .int .i64 most] w (RetF w (runL S most.toNat (max slot 1))) := by
  by_cases hs : slot < 1
  · rw [show max slot 1 = 1 by omega]; exact rfrom_lo h hS hk hmx h1 h2 hs
  · rw [show max slot 1 = slot by omega]; exact rfrom_hi h hS hk hmx h1 h2 (by omega)

end Go.Proofs.Ytlcchpjficbgmaa
