/- Contracts of frame.four, frame.Wrap and the reference's Big and Wrap. -/
import Derived.Test.YtfcacplecapgfaaF1
namespace Go.Proofs.Ytfcacplecapgfaa
open Go.RowKit
set_option linter.unusedVariables false
set_option linter.unusedSimpArgs false

set_option maxHeartbeats 400000 in
theorem four_calls {w : World} (s : B32) : Calls Try.prog 45 #[.int .u32 (s.toNat : Int)] w (RetB w (be32 s)) := by
  go_enter Try.func45, Try.ntmps45
  go_wp2
  go_ret
  refine RetB.mk (w1 := w) (B := w.heap.size) rfl ?_ (Nat.le_refl _) ((Below.refl _ _).alloc (Nat.le_refl _) _)
  have h := World.ownsRow_lit (base := w.heap.size) (e := 5) (size := 1) w #[Value.int IntKind.u8 ((s.toNat : Int) / 16777216), Value.int IntKind.u8 ((s.toNat : Int) / 65536 % 256),
        Value.int IntKind.u8 ((s.toNat : Int) / 256 % 256), Value.int IntKind.u8 ((s.toNat : Int) % 256)] 4 (Nat.le_refl _) (by decide) rfl
  have hs := s.isLt
  have he : #[Value.int IntKind.u8 ((s.toNat : Int) / 16777216), Value.int IntKind.u8 ((s.toNat : Int) / 65536 % 256),
        Value.int IntKind.u8 ((s.toNat : Int) / 256 % 256), Value.int IntKind.u8 ((s.toNat : Int) % 256)].toList = bys (be32 s) := by
    simp only [be32, bys_cons, bys_nil, bv, BitVec.toNat_setWidth, BitVec.toNat_ushiftRight, Nat.shiftRight_eq_div_pow]
    simp
    omega
  rw [he] at h
  exact h

set_option maxHeartbeats 400000 in
theorem big_calls {w : World} {N W : Int} (n width : Nat) (hN : N = n) (hW : W = width) (hw : width ≤ 8) (hn : n < 2 ^ 63) : Calls Try.prog 49 #[.int .i64 N, .int .i64 W] w (RetB w (bigF n width)) := by
  subst hN hW
  have HN := Lib.hid hn
  clear hn
  go_enter Try.func49, Try.ntmps49
  go_wp2_with (refine make_bytes rfl _ _ rfl w.heap.size width rfl rfl rfl rfl (by omega) (Nat.le_refl _) ?_; intro w1 g ho hb hg1 hg2)
  go_loopw [0, 6] (fun s0 s6 wr => ∃ i j : Nat, i + j = width ∧ s0 = .int .i64 ((n / 256 ^ j : Nat) : Int) ∧ s6 = .int .i64 ((i : Int) - 1) ∧
      wr.ownsRow w.heap.size 5 1 (.slice (some ⟨g, 0, none⟩) width width) width (bys (List.replicate i 0#8 ++ bigF n j)) ∧ Below w.heap.size w wr) (fun _ s6 _ => (intOf s6 + 1).toNat)
  case atStart => exact ⟨width, 0, rfl, by simp, rfl, by simpa [bigF] using ho, hb⟩
  case round =>
    obtain ⟨i, j, hij, rfl, rfl, hown, hbel⟩ := hrel
    cases i with
    | zero =>
      have hz : ((0 : Nat) : Int) - 1 = -1 := rfl
      rw [hz]
      clear hz
      go_wp2
      go_ret
      have hj : j = width := by omega
      subst hj
      exact RetB.mk (w1 := w) (B := w.heap.size) (by rw [length_bigF]) (by simpa using hown) (Nat.le_refl _) hbel
    | succ i =>
      rw [show ((i + 1 : Nat) : Int) - 1 = (i : Int) by omega]
      have hi : i < width := by omega
      obtain ⟨u, hcell⟩ := own_some hown hi
      have hfz := hown.frozenAt i
      obtain ⟨m, hm⟩ : ∃ m, m = n / 256 ^ j := ⟨_, rfl⟩
      rw [← hm]
      have HM := Lib.hid hm
      clear hm
      go_wp2
      refine ⟨⟨i, j + 1, by omega, int_eq (wrap64_div n j m HN.out HM.out), rfl, ?_, hbel.setCell (own_ge hown).1 _⟩, by simp [intOf]⟩
      have h := own_store hown i (BitVec.ofNat 8 m)
      rw [bv_mod, ← set_zero, ← HM.out]
      exact h


/-- A call answers bytes of its own and a number. -/
def RetBE (w : World) (l : List B8) (n : Int) (e : Ending) (w' : World) : Prop :=
  ∃ A c, e = .returned (.tuple #[.slice A l.length c, .int .i64 n]) ∧ w'.ownsRow w.heap.size 5 1 (.slice A l.length c) l.length (bys l) ∧ Below w.heap.size w w'

theorem RetBE.mk {w w' : World} {B : Nat} {l : List B8} {A : Option Addr} {n c : Nat} {k : Int} (hn : n = l.length) (ho : w'.ownsRow B 5 1 (.slice A n c) n (bys l)) (hB : w.heap.size ≤ B) (hb : Below w.heap.size w w') :
    RetBE w l k (.returned (.tuple #[.slice A n c, .int .i64 k])) w' := by
  subst hn
  exact ⟨A, c, rfl, own_lower ho hB, hb⟩

/-- What Wrap answers. -/
def wrapR (l : List B8) : List B8 × Int := if 1 ≤ l.length ∧ l.length ≤ 65535 then (wrapF l, 0) else ([], 1)

set_option maxHeartbeats 400000 in
theorem wrap_calls {w : World} {A : Option Addr} {n c : Nat} {l : List B8} (hA : At w A (bys l)) (hn : n = l.length) (hnil : A = none → c = 0) (hmax : l.length ≤ 140737488355328) :
    Calls Try.prog 20 #[.slice A n c] w (RetBE w (wrapR l).1 (wrapR l).2) := by
  subst hn
  by_cases h1 : l.length < 1
  · have hr : wrapR l = ([], 1) := by unfold wrapR; rw [if_neg (by omega)]
    rw [hr]
    go_enter Try.func20, Try.ntmps20
    go_wp2
    go_ret2
    exact RetBE.mk rfl (World.ownsRow_nil _ w.heap.size _ _) (Nat.le_refl _) (Below.refl _ _)
  · by_cases h2 : 65535 < l.length
    · have hr : wrapR l = ([], 1) := by unfold wrapR; rw [if_neg (by omega)]
      rw [hr]
      go_enter Try.func20, Try.ntmps20
      go_wp2
      go_ret2
      exact RetBE.mk rfl (World.ownsRow_nil _ w.heap.size _ _) (Nat.le_refl _) (Below.refl _ _)
    · have hr : wrapR l = (wrapF l, 0) := by unfold wrapR; rw [if_pos (by omega)]
      rw [hr]
      go_enter Try.func20, Try.ntmps20
      go_wp2_with (first
        | (at_builtin; refine app_bytes rfl (.tmp 20) (.tmp 21) rfl w.heap.size rfl (own_lit (lit3 l.length (by omega)) rfl (by decide)) rfl rfl (hA.below ((Below.refl _ _).alloc (Nat.le_refl _) _)) hnil (by omega) (by simp) ?_; intro A1 c1 w1 ho1 hb1 _ hc1; replace ho1 : w1.ownsRow _ _ _ _ _ (bys (held l)) := ho1; replace hb1 := ((Below.refl w.heap.size w).alloc (Nat.le_refl _) _).trans hb1)
        | (go_at_call 33; refine (sum_calls (own_at ho1) (by simp; omega) (by simp; omega)).mono ?_; rintro e w2 ⟨rfl, rfl⟩)
        | (go_at_call 45; refine (four_calls _).mono ?_; rintro e w2 ⟨A2, c2, rfl, ho2, hb2⟩; rw [length_be32] at ho2; replace ho1 := own_below ho1 hb2; replace hb1 := hb1.trans (hb2.mono hb1.size))
        | (at_builtin; refine app_bytes rfl (.tmp 23) (.tmp 26) rfl w.heap.size rfl ho1 rfl rfl (own_at ho2) (own_nil ho2) (by omega) hb1.size ?_; intro A3 c3 w3 ho3 hb3 _ hc3; replace ho3 : w3.ownsRow _ _ _ _ _ (bys (wrapF l)) := ho3; replace hb1 := hb1.trans hb3))
      go_ret2
      exact RetBE.mk (by simp; omega) ho3 (Nat.le_refl _) hb1

/-- The reference's Wrap. -/
theorem be16_big (n : Nat) : bigF n 2 = be16 n := rfl
theorem be32_big (s : B32) : bigF s.toNat 4 = be32 s := by
  simp only [bigF, be32, List.nil_append, List.cons_append, List.cons.injEq, and_true, Nat.div_div_eq_div_mul]
  refine ⟨?_, ?_, ?_, ?_⟩ <;> apply BitVec.eq_of_toNat_eq <;> simp [BitVec.toNat_ushiftRight, Nat.shiftRight_eq_div_pow]

set_option maxHeartbeats 400000 in
theorem wrapR_calls {w : World} {A : Option Addr} {n c : Nat} {l : List B8} (hA : At w A (bys l)) (hn : n = l.length) (hnil : A = none → c = 0) (hmax : l.length ≤ 140737488355328) :
    Calls Try.prog 32 #[.slice A n c] w (RetBE w (wrapR l).1 (wrapR l).2) := by
  subst hn
  by_cases h1 : l.length < 1
  · have hr : wrapR l = ([], 1) := by unfold wrapR; rw [if_neg (by omega)]
    rw [hr]
    go_enter Try.func32, Try.ntmps32
    go_wp2
    go_ret2
    exact RetBE.mk rfl (World.ownsRow_nil _ w.heap.size _ _) (Nat.le_refl _) (Below.refl _ _)
  · by_cases h2 : 65535 < l.length
    · have hr : wrapR l = ([], 1) := by unfold wrapR; rw [if_neg (by omega)]
      rw [hr]
      go_enter Try.func32, Try.ntmps32
      go_wp2
      go_ret2
      exact RetBE.mk rfl (World.ownsRow_nil _ w.heap.size _ _) (Nat.le_refl _) (Below.refl _ _)
    · have hr : wrapR l = (wrapF l, 0) := by unfold wrapR; rw [if_pos (by omega)]
      rw [hr]
      go_enter Try.func32, Try.ntmps32
      have tk1 : True := trivial
      have HB0 := (Below.refl w.heap.size w).alloc (Nat.le_refl _) (.cells #[.int .u8 163] 5)
      have HO0 := own_lit (w := w) (e := 5) (cs := #[.int .u8 163]) (n := 1) (l := [0xa3#8]) rfl rfl (by decide)
      go_wp2_with (first
        | (go_at_call 49; clear tk1; refine (big_calls l.length 2 rfl rfl (by omega) (by omega)).mono ?_; rintro e w1 ⟨A1, c1, rfl, ho1, hb1⟩; rw [length_bigF, be16_big] at ho1; replace HO0 := own_below HO0 hb1; replace HB0 := HB0.trans (hb1.mono HB0.size))
        | (at_builtin; refine app_bytes rfl (.tmp 13) (.tmp 16) rfl w.heap.size rfl HO0 rfl rfl (own_at ho1) (own_nil ho1) (by omega) HB0.size ?_; intro A2 c2 w2 ho2 hb2 _ hc2; clear HO0; replace HB0 := HB0.trans hb2)
        | (at_builtin; refine app_bytes rfl (.tmp 17) (.tmp 18) rfl w.heap.size rfl ho2 rfl rfl (hA.below HB0) hnil (by omega) HB0.size ?_; intro A3 c3 w3 ho3 hb3 _ hc3; clear ho2; replace ho3 : w3.ownsRow _ _ _ _ _ (bys (held l)) := ho3; replace HB0 := HB0.trans hb3)
        | (go_at_call 34; refine (sumR_calls (own_at ho3) (by simp; omega) (by simp; omega)).mono ?_; rintro e w4 ⟨rfl, rfl⟩)
        | (go_at_call 49; refine (big_calls (crc (held l)).toNat 4 rfl rfl (by omega) (by have := (crc (held l)).isLt; omega)).mono ?_; rintro e w5 ⟨A5, c5, rfl, ho5, hb5⟩; rw [length_bigF, be32_big] at ho5; replace ho3 := own_below ho3 hb5; replace HB0 := HB0.trans (hb5.mono HB0.size))
        | (at_builtin; refine app_bytes rfl (.tmp 20) (.tmp 24) rfl w.heap.size rfl ho3 rfl rfl (own_at ho5) (own_nil ho5) (by omega) HB0.size ?_; intro A6 c6 w6 ho6 hb6 _ hc6; clear ho3; replace ho6 : w6.ownsRow _ _ _ _ _ (bys (wrapF l)) := ho6; replace HB0 := HB0.trans hb6))
      go_ret2
      exact RetBE.mk (by simp; omega) ho6 (Nat.le_refl _) HB0

end Go.Proofs.Ytfcacplecapgfaa
