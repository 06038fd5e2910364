/- The law FrameBursts. -/
import Derived.Test.YtjninkdhicmniaaF7
import Derived.Test.YtjninkdhicmniaaFBurst
import Derived.RegionTactic
namespace Go.Proofs.Ytjninkdhicmniaa
open Go.RowKit
set_option linter.unusedVariables false
set_option linter.unusedSimpArgs false

theorem xorAt_zero (X : List B8) (k : Nat) (b : B32) : xorAt X k b 0 = X := rfl
theorem xorAt_succ (X : List B8) (k : Nat) (b : B32) (i : Nat) : xorAt X k b (i + 1) = (xorAt X k b i).set (k + i) ((xorAt X k b i).getD (k + i) 0 ^^^ byteAt b i) := rfl
theorem u64_sub3 (N : Nat) (h : (4 : Int) ≤ N) (h2 : (N : Int) ≤ 2004) : IntKind.u64.wrap ((N : Int) - 3) = (N : Int) - 3 := by
  simp [IntKind.wrap, IntKind.bits, IntKind.signed]
  omega
theorem own_block {w : World} {B e sz n c : Nat} {A : Option Addr} {vs : List Value} (h : w.ownsRow B e sz (.slice A n c) n vs) (hn : 0 < n) : ∃ g, A = some ⟨g, 0, none⟩ := by
  rcases h.2 with ⟨_, h0⟩ | ⟨g, cap, cur, hv, _⟩
  · omega
  · injection hv with hA _ _; exact ⟨g, hA⟩

theorem xor_byte (x : B8) (y : B32) (i : Nat) (hi : i < 4) : Value.int .u8 (bits .xor .u8 (x.toNat : Int) ((y.toNat : Int) / (2 ^ (8 * i) : Nat) % 256)) = bv (x ^^^ byteAt y i) := by
  have h : (y.toNat : Int) / (2 ^ (8 * i) : Nat) % 256 = ((byteAt y i).toNat : Int) := by
    unfold byteAt
    rw [BitVec.toNat_setWidth, BitVec.toNat_ushiftRight, Nat.shiftRight_eq_div_pow]
    simp
  rw [h]
  exact int_eq (bits8_xor _ _)

set_option maxHeartbeats 2000000 in
theorem frameBursts_le {w : World} {A : Option Addr} {n c : Nat} {k : Int} {y : B32} {l : List B8} (hA : At w A (bys l)) (hn : n = l.length) (hnc : n ≤ c) (hnil : A = none → c = 0) (hmax : l.length ≤ 140737488355328) (hcase : (l.length : Int) ≤ 2000) :
    Calls Try.prog 6 #[.slice A n c, .int .i64 k, .int .u32 (y.toNat : Int)] w fun e w' => e = .returned (.bool true) ∧ Below w.heap.size w w' := by
  subst hn
  have hA1 : At w A (bys (l.take 2000)) := by rw [← bys_take]; exact hA.take 2000
  have e1 := Lib.hid (by rw [List.length_take] : (l.take 2000).length = min 2000 l.length)
  generalize l.take 2000 = L at *
  have hci : (l.length : Int) ≤ c := by omega
  have hc2 : 2000 < (l.length : Int) → (2000 : Int) ≤ c := by omega
  clear hA
  have tk1 : True := trivial
  go_enter Try.func6, Try.ntmps6
  go_wp2_with fail
  all_goals
    refine (clone_calls (l := L) hA1 (by have := e1.out; omega) hnil (by have := e1.out; omega)).mono ?_
    rintro e w1 ⟨A1, c1, rfl, ho1, HB⟩
    clear hc2 hci hnc
    go_wp2_with (first
      | (at_builtin; clear tk1; refine app_bytes rfl (.tmp 15) (.tmp 16) rfl w.heap.size rfl (ho1.alloc _) rfl (news := [1#8, 2#8, 3#8, 4#8]) rfl (by exact at_lit rfl) (by simp) (by omega) ?hbs ?_; (case hbs => (simp; have := HB.size; omega)); intro A2 c2 w2 ho2 hb2 hg2 hc2; clear hg2; replace HB := (HB.alloc HB.size _).trans hb2; clear hb2 ho1))
    have e2 : (L ++ [1#8, 2#8, 3#8, 4#8]).length = L.length + 4 := by simp
    obtain ⟨N2, hN⟩ : ∃ N2, N2 = L.length + 4 := ⟨_, rfl⟩
    (first | rw [show (2000 + 4 : Nat) = N2 by have := e1.out; omega] at ho2 | rw [show (l.length + 4 : Nat) = N2 by have := e1.out; omega] at ho2)
    (first | rw [show (2004 : Nat) = N2 by have := e1.out; omega] | rw [show (l.length + 4 : Nat) = N2 by have := e1.out; omega])
    have hN8 : N2 ≤ 2004 := by have := e1.out; omega
    have HB2' := HB.size
    refine (wrap_ok (l := L ++ [1#8, 2#8, 3#8, 4#8]) (own_at ho2) (by omega) (own_nil ho2) (by omega) (by omega)).mono ?_
    rintro e w3 ⟨A3, c3, rfl, ho3, hb3⟩
    replace HB := HB.trans (hb3.mono HB.size)
    clear hb3
    obtain ⟨r, hr1, hr2⟩ := urem k ((N2 : Int) - 3) (by omega) (by omega)
    have HR2 := Lib.hid hr2
    clear hr2
    have hz1 : ((N2 : Int) == 0) = false := by simp; omega
    have hz2 : ¬ (N2 : Int) - 3 = 0 := by omega
    obtain ⟨K, hK⟩ : ∃ K : Nat, K = r + 3 := ⟨_, rfl⟩
    have hr3 : wrap64 (3 + (r : Int)) = (K : Int) := by unfold wrap64; omega
    have hK3 : 3 ≤ K ∧ K < N2 := by omega
    have hN2 : (4 : Int) ≤ N2 := by omega
    have hN3 : (N2 : Int) ≤ 2004 := by omega
    have HN := Lib.hid hN
    have HB2 : w.heap.size ≤ w2.heap.size := HB2'
    obtain ⟨LL, hLL⟩ : ∃ LL, LL = L ++ [1#8, 2#8, 3#8, 4#8] := ⟨_, rfl⟩
    rw [← hLL] at ho3 e2
    have E2 := Lib.hid e2
    obtain ⟨g, rfl⟩ := own_block ho3 (by omega)
    clear hN e2 hr1 ho2 hc2 hLL hK
    have hu := u64_sub3 N2 hN2 hN3
    have hr2 := HR2.out
    clear HR2
    go_wp2_with fail
    rw [hr3]
    clear hr3 hu hr2
    go_loopw [42] (fun s42 wr => ∃ i : Nat, i ≤ 4 ∧ s42 = .int .i64 i ∧ wr.ownsRow w2.heap.size 5 1 (.slice (some ⟨g, 0, none⟩) (N2 + 7) c3) (N2 + 7) (bys (xorAt (wrapF LL) K y i)) ∧ Below w.heap.size w wr) (fun s42 _ => (4 - intOf s42).toNat)
    case atStart => exact ⟨0, by omega, rfl, by rw [xorAt_zero]; exact ho3, HB⟩
    case round =>
      obtain ⟨i, hi, rfl, hown, hbel⟩ := hrel
      clear ho3 HB
      have e2 : LL.length = N2 := by rw [E2.out]; exact HN.out.symm
      have : i = 0 ∨ i = 1 ∨ i = 2 ∨ i = 3 ∨ i = 4 := by omega
      rcases this with rfl | rfl | rfl | rfl | rfl
      · have hlt : K < (xorAt (wrapF LL) K y 0).length := by rw [length_xorAt, length_wrapF, e2]; omega
        have hc := own_cell hown hlt
        have hfz := hown.frozenAt (K)
        have hx : (xorAt (wrapF LL) K y 0)[K] = (xorAt (wrapF LL) K y 0).getD (K) 0 := by rw [List.getD_eq_getElem?_getD, List.getElem?_eq_getElem hlt]; rfl
        rw [hx] at hc
        clear hx hlt
        have HX := Lib.hid (xor_byte ((xorAt (wrapF LL) K y 0).getD (K) 0) y 0 (by omega))
        obtain ⟨x, hx⟩ : ∃ x, x = (xorAt (wrapF LL) K y 0).getD (K) 0 := ⟨_, rfl⟩
        rw [← hx] at hc HX
        have HO : Hid ((wr.setCell ⟨g, K, none⟩ (bv (x ^^^ byteAt y 0))).drew.ownsRow w2.heap.size 5 1 (.slice (some ⟨g, 0, none⟩) (N2 + 7) c3) (N2 + 7) (bys (xorAt (wrapF LL) K y 1))) :=
          Lib.hid (by rw [hx, xorAt_succ]; exact own_store hown (K) _)
        clear hx
        have q1 : (0 : Int) ≤ (K : Int) := by omega
        have q2 : (K : Int) < (N2 : Int) + 7 := by omega
        have q3 : ((K : Int)).toNat = K := by omega
        have q4 : IntKind.i64.wrap ((K : Int)) = (K : Int) := IntWalk.i64_in _ (by omega)
        have hg0 := (own_ge hown).1
        clear hown
        go_wp2
        go_region
        go_wp2
        have hE : (y.toNat : Int) % 256 = (y.toNat : Int) / (2 ^ (8 * 0) : Nat) % 256 := by
          have := y.isLt
          simp <;> omega
        rw [hE, HX.out]
        exact ⟨⟨1, by omega, rfl, HO.out, (hbel.setCell (by show _ ≤ g; omega) _).drew⟩, by simp [intOf]⟩
      · have hlt : K + 1 < (xorAt (wrapF LL) K y 1).length := by rw [length_xorAt, length_wrapF, e2]; omega
        have hc := own_cell hown hlt
        have hfz := hown.frozenAt (K + 1)
        have hx : (xorAt (wrapF LL) K y 1)[K + 1] = (xorAt (wrapF LL) K y 1).getD (K + 1) 0 := by rw [List.getD_eq_getElem?_getD, List.getElem?_eq_getElem hlt]; rfl
        rw [hx] at hc
        clear hx hlt
        have HX := Lib.hid (xor_byte ((xorAt (wrapF LL) K y 1).getD (K + 1) 0) y 1 (by omega))
        obtain ⟨x, hx⟩ : ∃ x, x = (xorAt (wrapF LL) K y 1).getD (K + 1) 0 := ⟨_, rfl⟩
        rw [← hx] at hc HX
        have HO : Hid ((wr.setCell ⟨g, K + 1, none⟩ (bv (x ^^^ byteAt y 1))).drew.ownsRow w2.heap.size 5 1 (.slice (some ⟨g, 0, none⟩) (N2 + 7) c3) (N2 + 7) (bys (xorAt (wrapF LL) K y 2))) :=
          Lib.hid (by rw [hx, xorAt_succ]; exact own_store hown (K + 1) _)
        clear hx
        have q1 : (0 : Int) ≤ (K : Int) + 1 := by omega
        have q2 : (K : Int) + 1 < (N2 : Int) + 7 := by omega
        have q3 : ((K : Int) + 1).toNat = K + 1 := by omega
        have q4 : IntKind.i64.wrap ((K : Int) + 1) = (K : Int) + 1 := IntWalk.i64_in _ (by omega)
        have hg0 := (own_ge hown).1
        clear hown
        go_wp2
        go_region
        go_wp2
        have hE : (y.toNat : Int) / 256 % 256 = (y.toNat : Int) / (2 ^ (8 * 1) : Nat) % 256 := by
          have := y.isLt
          simp <;> omega
        rw [hE, HX.out]
        exact ⟨⟨2, by omega, rfl, HO.out, (hbel.setCell (by show _ ≤ g; omega) _).drew⟩, by simp [intOf]⟩
      · have hlt : K + 2 < (xorAt (wrapF LL) K y 2).length := by rw [length_xorAt, length_wrapF, e2]; omega
        have hc := own_cell hown hlt
        have hfz := hown.frozenAt (K + 2)
        have hx : (xorAt (wrapF LL) K y 2)[K + 2] = (xorAt (wrapF LL) K y 2).getD (K + 2) 0 := by rw [List.getD_eq_getElem?_getD, List.getElem?_eq_getElem hlt]; rfl
        rw [hx] at hc
        clear hx hlt
        have HX := Lib.hid (xor_byte ((xorAt (wrapF LL) K y 2).getD (K + 2) 0) y 2 (by omega))
        obtain ⟨x, hx⟩ : ∃ x, x = (xorAt (wrapF LL) K y 2).getD (K + 2) 0 := ⟨_, rfl⟩
        rw [← hx] at hc HX
        have HO : Hid ((wr.setCell ⟨g, K + 2, none⟩ (bv (x ^^^ byteAt y 2))).drew.ownsRow w2.heap.size 5 1 (.slice (some ⟨g, 0, none⟩) (N2 + 7) c3) (N2 + 7) (bys (xorAt (wrapF LL) K y 3))) :=
          Lib.hid (by rw [hx, xorAt_succ]; exact own_store hown (K + 2) _)
        clear hx
        have q1 : (0 : Int) ≤ (K : Int) + 2 := by omega
        have q2 : (K : Int) + 2 < (N2 : Int) + 7 := by omega
        have q3 : ((K : Int) + 2).toNat = K + 2 := by omega
        have q4 : IntKind.i64.wrap ((K : Int) + 2) = (K : Int) + 2 := IntWalk.i64_in _ (by omega)
        have hg0 := (own_ge hown).1
        clear hown
        go_wp2
        go_region
        go_wp2
        have hE : (y.toNat : Int) / 65536 % 256 = (y.toNat : Int) / (2 ^ (8 * 2) : Nat) % 256 := by
          have := y.isLt
          simp <;> omega
        rw [hE, HX.out]
        exact ⟨⟨3, by omega, rfl, HO.out, (hbel.setCell (by show _ ≤ g; omega) _).drew⟩, by simp [intOf]⟩
      · have hlt : K + 3 < (xorAt (wrapF LL) K y 3).length := by rw [length_xorAt, length_wrapF, e2]; omega
        have hc := own_cell hown hlt
        have hfz := hown.frozenAt (K + 3)
        have hx : (xorAt (wrapF LL) K y 3)[K + 3] = (xorAt (wrapF LL) K y 3).getD (K + 3) 0 := by rw [List.getD_eq_getElem?_getD, List.getElem?_eq_getElem hlt]; rfl
        rw [hx] at hc
        clear hx hlt
        have HX := Lib.hid (xor_byte ((xorAt (wrapF LL) K y 3).getD (K + 3) 0) y 3 (by omega))
        obtain ⟨x, hx⟩ : ∃ x, x = (xorAt (wrapF LL) K y 3).getD (K + 3) 0 := ⟨_, rfl⟩
        rw [← hx] at hc HX
        have HO : Hid ((wr.setCell ⟨g, K + 3, none⟩ (bv (x ^^^ byteAt y 3))).drew.ownsRow w2.heap.size 5 1 (.slice (some ⟨g, 0, none⟩) (N2 + 7) c3) (N2 + 7) (bys (xorAt (wrapF LL) K y 4))) :=
          Lib.hid (by rw [hx, xorAt_succ]; exact own_store hown (K + 3) _)
        clear hx
        have q1 : (0 : Int) ≤ (K : Int) + 3 := by omega
        have q2 : (K : Int) + 3 < (N2 : Int) + 7 := by omega
        have q3 : ((K : Int) + 3).toNat = K + 3 := by omega
        have q4 : IntKind.i64.wrap ((K : Int) + 3) = (K : Int) + 3 := IntWalk.i64_in _ (by omega)
        have hg0 := (own_ge hown).1
        clear hown
        go_wp2
        go_region
        go_wp2
        have hE : (y.toNat : Int) / 16777216 = (y.toNat : Int) / (2 ^ (8 * 3) : Nat) % 256 := by
          have := y.isLt
          simp <;> omega
        rw [hE, HX.out]
        exact ⟨⟨4, by omega, rfl, HO.out, (hbel.setCell (by show _ ≤ g; omega) _).drew⟩, by simp [intOf]⟩
      · have hL1 : 1 ≤ LL.length := by omega
        have hb := Lib.hid (unwrap_burst LL K y hL1 (by omega) hK3.1 (by omega))
        have e5 : N2 + 7 = (xorAt (wrapF LL) K y 4).length := by rw [length_xorAt, length_wrapF, e2]
        have hle := own_le hown
        have hA5 := own_at hown
        have E5 := Lib.hid e5
        clear e5 hown e2 hL1
        go_wp2_with fail
        refine (unwrap_calls hA5 E5.out hle (by simp) (by rw [← E5.out]; omega)).mono ?_
        rintro e w4 ⟨A4, c4, A5, c5, rfl, ho4, ho5, hb4⟩
        by_cases hy : y = 0#32
        · rw [hb.out, if_pos hy]
          subst hy
          go_wp2_with fail
          go_ret
          exact ⟨rfl, hbel.trans (hb4.mono hbel.size)⟩
        · rw [hb.out, if_neg hy]
          have hy1 : ((y.toNat : Int) == 0) = false := by
            rw [beq_eq_false_iff_ne]
            intro h0
            exact hy (BitVec.eq_of_toNat_eq (by simp; omega))
          have hy2 : ((y.toNat : Int) != 0) = true := by rw [bne, hy1]; rfl
          clear hy
          go_wp2_with fail
          go_ret
          exact ⟨rfl, hbel.trans (hb4.mono hbel.size)⟩

set_option maxHeartbeats 2000000 in
theorem frameBursts_gt {w : World} {A : Option Addr} {n c : Nat} {k : Int} {y : B32} {l : List B8} (hA : At w A (bys l)) (hn : n = l.length) (hnc : n ≤ c) (hnil : A = none → c = 0) (hmax : l.length ≤ 140737488355328) (hcase : 2000 < (l.length : Int)) :
    Calls Try.prog 6 #[.slice A n c, .int .i64 k, .int .u32 (y.toNat : Int)] w fun e w' => e = .returned (.bool true) ∧ Below w.heap.size w w' := by
  subst hn
  have hA1 : At w A (bys (l.take 2000)) := by rw [← bys_take]; exact hA.take 2000
  have e1 := Lib.hid (by rw [List.length_take] : (l.take 2000).length = min 2000 l.length)
  generalize l.take 2000 = L at *
  have hci : (l.length : Int) ≤ c := by omega
  have hc2 : 2000 < (l.length : Int) → (2000 : Int) ≤ c := by omega
  clear hA
  have tk1 : True := trivial
  go_enter Try.func6, Try.ntmps6
  go_wp2_with fail
  all_goals
    refine (clone_calls (l := L) hA1 (by have := e1.out; omega) hnil (by have := e1.out; omega)).mono ?_
    rintro e w1 ⟨A1, c1, rfl, ho1, HB⟩
    clear hc2 hci hnc
    go_wp2_with (first
      | (at_builtin; clear tk1; refine app_bytes rfl (.tmp 15) (.tmp 16) rfl w.heap.size rfl (ho1.alloc _) rfl (news := [1#8, 2#8, 3#8, 4#8]) rfl (by exact at_lit rfl) (by simp) (by omega) ?hbs ?_; (case hbs => (simp; have := HB.size; omega)); intro A2 c2 w2 ho2 hb2 hg2 hc2; clear hg2; replace HB := (HB.alloc HB.size _).trans hb2; clear hb2 ho1))
    have e2 : (L ++ [1#8, 2#8, 3#8, 4#8]).length = L.length + 4 := by simp
    obtain ⟨N2, hN⟩ : ∃ N2, N2 = L.length + 4 := ⟨_, rfl⟩
    (first | rw [show (2000 + 4 : Nat) = N2 by have := e1.out; omega] at ho2 | rw [show (l.length + 4 : Nat) = N2 by have := e1.out; omega] at ho2)
    (first | rw [show (2004 : Nat) = N2 by have := e1.out; omega] | rw [show (l.length + 4 : Nat) = N2 by have := e1.out; omega])
    have hN8 : N2 ≤ 2004 := by have := e1.out; omega
    have HB2' := HB.size
    refine (wrap_ok (l := L ++ [1#8, 2#8, 3#8, 4#8]) (own_at ho2) (by omega) (own_nil ho2) (by omega) (by omega)).mono ?_
    rintro e w3 ⟨A3, c3, rfl, ho3, hb3⟩
    replace HB := HB.trans (hb3.mono HB.size)
    clear hb3
    obtain ⟨r, hr1, hr2⟩ := urem k ((N2 : Int) - 3) (by omega) (by omega)
    have HR2 := Lib.hid hr2
    clear hr2
    have hz1 : ((N2 : Int) == 0) = false := by simp; omega
    have hz2 : ¬ (N2 : Int) - 3 = 0 := by omega
    obtain ⟨K, hK⟩ : ∃ K : Nat, K = r + 3 := ⟨_, rfl⟩
    have hr3 : wrap64 (3 + (r : Int)) = (K : Int) := by unfold wrap64; omega
    have hK3 : 3 ≤ K ∧ K < N2 := by omega
    have hN2 : (4 : Int) ≤ N2 := by omega
    have hN3 : (N2 : Int) ≤ 2004 := by omega
    have HN := Lib.hid hN
    have HB2 : w.heap.size ≤ w2.heap.size := HB2'
    obtain ⟨LL, hLL⟩ : ∃ LL, LL = L ++ [1#8, 2#8, 3#8, 4#8] := ⟨_, rfl⟩
    rw [← hLL] at ho3 e2
    have E2 := Lib.hid e2
    obtain ⟨g, rfl⟩ := own_block ho3 (by omega)
    clear hN e2 hr1 ho2 hc2 hLL hK
    have hu := u64_sub3 N2 hN2 hN3
    have hr2 := HR2.out
    clear HR2
    go_wp2_with fail
    rw [hr3]
    clear hr3 hu hr2
    go_loopw [42] (fun s42 wr => ∃ i : Nat, i ≤ 4 ∧ s42 = .int .i64 i ∧ wr.ownsRow w2.heap.size 5 1 (.slice (some ⟨g, 0, none⟩) (N2 + 7) c3) (N2 + 7) (bys (xorAt (wrapF LL) K y i)) ∧ Below w.heap.size w wr) (fun s42 _ => (4 - intOf s42).toNat)
    case atStart => exact ⟨0, by omega, rfl, by rw [xorAt_zero]; exact ho3, HB⟩
    case round =>
      obtain ⟨i, hi, rfl, hown, hbel⟩ := hrel
      clear ho3 HB
      have e2 : LL.length = N2 := by rw [E2.out]; exact HN.out.symm
      have : i = 0 ∨ i = 1 ∨ i = 2 ∨ i = 3 ∨ i = 4 := by omega
      rcases this with rfl | rfl | rfl | rfl | rfl
      · have hlt : K < (xorAt (wrapF LL) K y 0).length := by rw [length_xorAt, length_wrapF, e2]; omega
        have hc := own_cell hown hlt
        have hfz := hown.frozenAt (K)
        have hx : (xorAt (wrapF LL) K y 0)[K] = (xorAt (wrapF LL) K y 0).getD (K) 0 := by rw [List.getD_eq_getElem?_getD, List.getElem?_eq_getElem hlt]; rfl
        rw [hx] at hc
        clear hx hlt
        have HX := Lib.hid (xor_byte ((xorAt (wrapF LL) K y 0).getD (K) 0) y 0 (by omega))
        obtain ⟨x, hx⟩ : ∃ x, x = (xorAt (wrapF LL) K y 0).getD (K) 0 := ⟨_, rfl⟩
        rw [← hx] at hc HX
        have HO : Hid ((wr.setCell ⟨g, K, none⟩ (bv (x ^^^ byteAt y 0))).drew.ownsRow w2.heap.size 5 1 (.slice (some ⟨g, 0, none⟩) (N2 + 7) c3) (N2 + 7) (bys (xorAt (wrapF LL) K y 1))) :=
          Lib.hid (by rw [hx, xorAt_succ]; exact own_store hown (K) _)
        clear hx
        have q1 : (0 : Int) ≤ (K : Int) := by omega
        have q2 : (K : Int) < (N2 : Int) + 7 := by omega
        have q3 : ((K : Int)).toNat = K := by omega
        have q4 : IntKind.i64.wrap ((K : Int)) = (K : Int) := IntWalk.i64_in _ (by omega)
        have hg0 := (own_ge hown).1
        clear hown
        go_wp2
        go_region
        go_wp2
        have hE : (y.toNat : Int) % 256 = (y.toNat : Int) / (2 ^ (8 * 0) : Nat) % 256 := by
          have := y.isLt
          simp <;> omega
        rw [hE, HX.out]
        exact ⟨⟨1, by omega, rfl, HO.out, (hbel.setCell (by show _ ≤ g; omega) _).drew⟩, by simp [intOf]⟩
      · have hlt : K + 1 < (xorAt (wrapF LL) K y 1).length := by rw [length_xorAt, length_wrapF, e2]; omega
        have hc := own_cell hown hlt
        have hfz := hown.frozenAt (K + 1)
        have hx : (xorAt (wrapF LL) K y 1)[K + 1] = (xorAt (wrapF LL) K y 1).getD (K + 1) 0 := by rw [List.getD_eq_getElem?_getD, List.getElem?_eq_getElem hlt]; rfl
        rw [hx] at hc
        clear hx hlt
        have HX := Lib.hid (xor_byte ((xorAt (wrapF LL) K y 1).getD (K + 1) 0) y 1 (by omega))
        obtain ⟨x, hx⟩ : ∃ x, x = (xorAt (wrapF LL) K y 1).getD (K + 1) 0 := ⟨_, rfl⟩
        rw [← hx] at hc HX
        have HO : Hid ((wr.setCell ⟨g, K + 1, none⟩ (bv (x ^^^ byteAt y 1))).drew.ownsRow w2.heap.size 5 1 (.slice (some ⟨g, 0, none⟩) (N2 + 7) c3) (N2 + 7) (bys (xorAt (wrapF LL) K y 2))) :=
          Lib.hid (by rw [hx, xorAt_succ]; exact own_store hown (K + 1) _)
        clear hx
        have q1 : (0 : Int) ≤ (K : Int) + 1 := by omega
        have q2 : (K : Int) + 1 < (N2 : Int) + 7 := by omega
        have q3 : ((K : Int) + 1).toNat = K + 1 := by omega
        have q4 : IntKind.i64.wrap ((K : Int) + 1) = (K : Int) + 1 := IntWalk.i64_in _ (by omega)
        have hg0 := (own_ge hown).1
        clear hown
        go_wp2
        go_region
        go_wp2
        have hE : (y.toNat : Int) / 256 % 256 = (y.toNat : Int) / (2 ^ (8 * 1) : Nat) % 256 := by
          have := y.isLt
          simp <;> omega
        rw [hE, HX.out]
        exact ⟨⟨2, by omega, rfl, HO.out, (hbel.setCell (by show _ ≤ g; omega) _).drew⟩, by simp [intOf]⟩
      · have hlt : K + 2 < (xorAt (wrapF LL) K y 2).length := by rw [length_xorAt, length_wrapF, e2]; omega
        have hc := own_cell hown hlt
        have hfz := hown.frozenAt (K + 2)
        have hx : (xorAt (wrapF LL) K y 2)[K + 2] = (xorAt (wrapF LL) K y 2).getD (K + 2) 0 := by rw [List.getD_eq_getElem?_getD, List.getElem?_eq_getElem hlt]; rfl
        rw [hx] at hc
        clear hx hlt
        have HX := Lib.hid (xor_byte ((xorAt (wrapF LL) K y 2).getD (K + 2) 0) y 2 (by omega))
        obtain ⟨x, hx⟩ : ∃ x, x = (xorAt (wrapF LL) K y 2).getD (K + 2) 0 := ⟨_, rfl⟩
        rw [← hx] at hc HX
        have HO : Hid ((wr.setCell ⟨g, K + 2, none⟩ (bv (x ^^^ byteAt y 2))).drew.ownsRow w2.heap.size 5 1 (.slice (some ⟨g, 0, none⟩) (N2 + 7) c3) (N2 + 7) (bys (xorAt (wrapF LL) K y 3))) :=
          Lib.hid (by rw [hx, xorAt_succ]; exact own_store hown (K + 2) _)
        clear hx
        have q1 : (0 : Int) ≤ (K : Int) + 2 := by omega
        have q2 : (K : Int) + 2 < (N2 : Int) + 7 := by omega
        have q3 : ((K : Int) + 2).toNat = K + 2 := by omega
        have q4 : IntKind.i64.wrap ((K : Int) + 2) = (K : Int) + 2 := IntWalk.i64_in _ (by omega)
        have hg0 := (own_ge hown).1
        clear hown
        go_wp2
        go_region
        go_wp2
        have hE : (y.toNat : Int) / 65536 % 256 = (y.toNat : Int) / (2 ^ (8 * 2) : Nat) % 256 := by
          have := y.isLt
          simp <;> omega
        rw [hE, HX.out]
        exact ⟨⟨3, by omega, rfl, HO.out, (hbel.setCell (by show _ ≤ g; omega) _).drew⟩, by simp [intOf]⟩
      · have hlt : K + 3 < (xorAt (wrapF LL) K y 3).length := by rw [length_xorAt, length_wrapF, e2]; omega
        have hc := own_cell hown hlt
        have hfz := hown.frozenAt (K + 3)
        have hx : (xorAt (wrapF LL) K y 3)[K + 3] = (xorAt (wrapF LL) K y 3).getD (K + 3) 0 := by rw [List.getD_eq_getElem?_getD, List.getElem?_eq_getElem hlt]; rfl
        rw [hx] at hc
        clear hx hlt
        have HX := Lib.hid (xor_byte ((xorAt (wrapF LL) K y 3).getD (K + 3) 0) y 3 (by omega))
        obtain ⟨x, hx⟩ : ∃ x, x = (xorAt (wrapF LL) K y 3).getD (K + 3) 0 := ⟨_, rfl⟩
        rw [← hx] at hc HX
        have HO : Hid ((wr.setCell ⟨g, K + 3, none⟩ (bv (x ^^^ byteAt y 3))).drew.ownsRow w2.heap.size 5 1 (.slice (some ⟨g, 0, none⟩) (N2 + 7) c3) (N2 + 7) (bys (xorAt (wrapF LL) K y 4))) :=
          Lib.hid (by rw [hx, xorAt_succ]; exact own_store hown (K + 3) _)
        clear hx
        have q1 : (0 : Int) ≤ (K : Int) + 3 := by omega
        have q2 : (K : Int) + 3 < (N2 : Int) + 7 := by omega
        have q3 : ((K : Int) + 3).toNat = K + 3 := by omega
        have q4 : IntKind.i64.wrap ((K : Int) + 3) = (K : Int) + 3 := IntWalk.i64_in _ (by omega)
        have hg0 := (own_ge hown).1
        clear hown
        go_wp2
        go_region
        go_wp2
        have hE : (y.toNat : Int) / 16777216 = (y.toNat : Int) / (2 ^ (8 * 3) : Nat) % 256 := by
          have := y.isLt
          simp <;> omega
        rw [hE, HX.out]
        exact ⟨⟨4, by omega, rfl, HO.out, (hbel.setCell (by show _ ≤ g; omega) _).drew⟩, by simp [intOf]⟩
      · have hL1 : 1 ≤ LL.length := by omega
        have hb := Lib.hid (unwrap_burst LL K y hL1 (by omega) hK3.1 (by omega))
        have e5 : N2 + 7 = (xorAt (wrapF LL) K y 4).length := by rw [length_xorAt, length_wrapF, e2]
        have hle := own_le hown
        have hA5 := own_at hown
        have E5 := Lib.hid e5
        clear e5 hown e2 hL1
        go_wp2_with fail
        refine (unwrap_calls hA5 E5.out hle (by simp) (by rw [← E5.out]; omega)).mono ?_
        rintro e w4 ⟨A4, c4, A5, c5, rfl, ho4, ho5, hb4⟩
        by_cases hy : y = 0#32
        · rw [hb.out, if_pos hy]
          subst hy
          go_wp2_with fail
          go_ret
          exact ⟨rfl, hbel.trans (hb4.mono hbel.size)⟩
        · rw [hb.out, if_neg hy]
          have hy1 : ((y.toNat : Int) == 0) = false := by
            rw [beq_eq_false_iff_ne]
            intro h0
            exact hy (BitVec.eq_of_toNat_eq (by simp; omega))
          have hy2 : ((y.toNat : Int) != 0) = true := by rw [bne, hy1]; rfl
          clear hy
          go_wp2_with fail
          go_ret
          exact ⟨rfl, hbel.trans (hb4.mono hbel.size)⟩

theorem frameBursts_calls {w : World} {A : Option Addr} {n c : Nat} {k : Int} {y : B32} {l : List B8} (hA : At w A (bys l)) (hn : n = l.length) (hnc : n ≤ c) (hnil : A = none → c = 0) (hmax : l.length ≤ 140737488355328) :
    Calls Try.prog 6 #[.slice A n c, .int .i64 k, .int .u32 (y.toNat : Int)] w fun e w' => e = .returned (.bool true) ∧ Below w.heap.size w w' := by
  by_cases hc : (l.length : Int) ≤ 2000
  · exact frameBursts_le hA hn hnc hnil hmax hc
  · exact frameBursts_gt hA hn hnc hnil hmax (by omega)

end Go.Proofs.Ytjninkdhicmniaa
