/- Contract of frame.Unwrap. -/
import Derived.Test.YtfcacplecapgfaaF2
import Derived.Deep.RegionHeld3
import Derived.Deep.RegionWith
import Derived.RegionTactic
namespace Go.Proofs.Ytfcacplecapgfaa
open Go.RowKit
set_option linter.unusedVariables false
set_option linter.unusedSimpArgs false

/-- A call answers two texts of its own and a number. -/
def RetU (w : World) (r : List B8 × List B8 × Int) (e : Ending) (w' : World) : Prop :=
  ∃ A c A2 c2, e = .returned (.tuple #[.slice A r.1.length c, .slice A2 r.2.1.length c2, .int .i64 r.2.2]) ∧
    w'.ownsRow w.heap.size 5 1 (.slice A r.1.length c) r.1.length (bys r.1) ∧ w'.ownsRow w.heap.size 5 1 (.slice A2 r.2.1.length c2) r.2.1.length (bys r.2.1) ∧ Below w.heap.size w w'

theorem RetU.mk {w w' : World} {B B2 : Nat} {r : List B8 × List B8 × Int} {A A2 : Option Addr} {n c n2 c2 : Nat} {k : Int} (hn : n = r.1.length) (hn2 : n2 = r.2.1.length) (hk : k = r.2.2)
    (ho : w'.ownsRow B 5 1 (.slice A n c) n (bys r.1)) (hB : w.heap.size ≤ B) (ho2 : w'.ownsRow B2 5 1 (.slice A2 n2 c2) n2 (bys r.2.1)) (hB2 : w.heap.size ≤ B2) (hb : Below w.heap.size w w') :
    RetU w r (.returned (.tuple #[.slice A n c, .slice A2 n2 c2, .int .i64 k])) w' := by
  subst hn hn2 hk
  exact ⟨A, c, A2, c2, rfl, own_lower ho hB, own_lower ho2 hB2, hb⟩
theorem RetU.bad' {w w' : World} {k : Int} {r : List B8 × List B8 × Int} (hr : r = ([], [], k)) (hb : Below w.heap.size w w') : RetU w r (.returned (.tuple #[.slice none 0 0, .slice none 0 0, .int .i64 k])) w' := by
  subst hr
  exact RetU.mk rfl rfl rfl (World.ownsRow_nil _ w.heap.size _ _) (Nat.le_refl _) (World.ownsRow_nil _ w.heap.size _ _) (Nat.le_refl _) hb
theorem RetU.bad {w : World} {k : Int} {r : List B8 × List B8 × Int} (hr : r = ([], [], k)) : RetU w r (.returned (.tuple #[.slice none 0 0, .slice none 0 0, .int .i64 k])) w := RetU.bad' hr (Below.refl _ _)

theorem byte_ne (x y : B8) : ((x.toNat : Int) != (y.toNat : Int)) = decide (x ≠ y) := by
  by_cases h : x = y
  · subst h; simp
  · have : (x.toNat : Int) ≠ (y.toNat : Int) := fun he => h (BitVec.eq_of_toNat_eq (by omega))
    simp [h, this]

theorem getD_of (l : List B8) (k : Nat) (h : k < l.length) : l.getD k 0 = l[k] := by simp [List.getD, h]

theorem or_shl (x y : B8) : bits .or .i64 ((x.toNat : Int) * 256) (y.toNat : Int) = ((x.toNat * 256 + y.toNat : Nat) : Int) := by
  have hx := x.isLt
  have hy := y.isLt
  rw [bits_join .i64 16 (by decide) (fun n h0 h1 => by rw [IntKind.wrap_i64]; omega) 8 _ _ (by omega) (by omega) (by omega) (by omega) (by omega) (by omega)]
  omega

/-- The parts of Unwrap's road. -/
structure UnwrapAt (l : List B8) : Prop where
  bad0 : l.length = 0 → unwrapF l = ([], [], 50)
  bad1 : ∀ h : 0 < l.length, l[0] ≠ 0xa3#8 → unwrapF l = ([], [], 51)
  bad2 : ∀ h : 0 < l.length, l[0] = 0xa3#8 → l.length < 3 → unwrapF l = ([], [], 50)
  bad3 : ∀ h : 3 ≤ l.length, l[0] = 0xa3#8 → l[1].toNat * 256 + l[2].toNat = 0 → unwrapF l = ([], [], 51)
  bad4 : ∀ h : 3 ≤ l.length, l[0] = 0xa3#8 → l[1].toNat * 256 + l[2].toNat ≠ 0 → l.length < l[1].toNat * 256 + l[2].toNat + 7 → unwrapF l = ([], [], 50)
  bad5 : ∀ h : 3 ≤ l.length, l[0] = 0xa3#8 → ∀ n, n = l[1].toNat * 256 + l[2].toNat → n ≠ 0 → n + 7 ≤ l.length → (l.drop (n + 3)).take 4 ≠ be32 (crc (l.take (n + 3))) → unwrapF l = ([], [], 52)
  good : ∀ h : 3 ≤ l.length, l[0] = 0xa3#8 → ∀ n, n = l[1].toNat * 256 + l[2].toNat → n ≠ 0 → n + 7 ≤ l.length → (l.drop (n + 3)).take 4 = be32 (crc (l.take (n + 3))) → unwrapF l = ((l.drop 3).take n, l.drop (n + 7), 0)

theorem unwrapAt (l : List B8) : UnwrapAt l where
  bad0 h := by unfold unwrapF; rw [if_pos h]
  bad1 h h1 := by unfold unwrapF; rw [if_neg (by omega), getD_of l 0 h, if_pos h1]
  bad2 h h1 h2 := by unfold unwrapF; rw [if_neg (by omega), getD_of l 0 h, if_neg (by simp [h1]), if_pos h2]
  bad3 h h1 h2 := by unfold unwrapF len16; rw [if_neg (by omega), getD_of l 0 (by omega), getD_of l 1 (by omega), getD_of l 2 (by omega), if_neg (by simp [h1]), if_neg (by omega), if_pos h2]
  bad4 h h1 h2 h3 := by unfold unwrapF len16; rw [if_neg (by omega), getD_of l 0 (by omega), getD_of l 1 (by omega), getD_of l 2 (by omega), if_neg (by simp [h1]), if_neg (by omega), if_neg h2, if_pos h3]
  bad5 h h1 n hn h2 h3 h4 := by unfold unwrapF len16; rw [if_neg (by omega), getD_of l 0 (by omega), getD_of l 1 (by omega), getD_of l 2 (by omega), if_neg (by simp [h1]), if_neg (by omega), ← hn, if_neg h2, if_neg (by omega), if_pos h4]
  good h h1 n hn h2 h3 h4 := by unfold unwrapF len16; rw [if_neg (by omega), getD_of l 0 (by omega), getD_of l 1 (by omega), getD_of l 2 (by omega), if_neg (by simp [h1]), if_neg (by omega), ← hn, if_neg h2, if_neg (by omega), if_neg (by simp [h4])]

theorem byte_eq_ne (x : B8) (h : x ≠ 0xa3#8) : ((x.toNat : Int) != 163) = true := by
  rw [bne_iff_ne]
  intro he
  exact h (BitVec.eq_of_toNat_eq (by simp; omega))

set_option maxHeartbeats 1000000 in
theorem unwrap_calls {w : World} {A : Option Addr} {n c : Nat} {l : List B8} (hA : At w A (bys l)) (hn : n = l.length) (hnc : n ≤ c) (hnil : A = none → c = 0) (hmax : l.length ≤ 140737488355328) :
    Calls Try.prog 21 #[.slice A n c] w (RetU w (unwrapF l)) := by
  subst hn
  have U := unwrapAt l
  by_cases h0 : l.length = 0
  · have hl : l = [] := List.eq_nil_of_length_eq_zero h0
    subst hl
    clear hA h0 hmax hnc
    go_enter Try.func21, Try.ntmps21
    go_wp2
    go_ret3
    exact RetU.bad rfl
  obtain ⟨b, off, rfl, hc0⟩ := hA.byte (k := 0) (by omega)
  have hpos : 0 < l.length := by omega
  have hb0 : (0 : Int) < (l.length : Int) := by omega
  rw [Nat.add_zero] at hc0
  by_cases h1 : l[0]'(by omega) = 0xa3#8
  · rw [h1] at hc0
    replace hc0 : w.cell? { block := b, off := off } = some (Value.int IntKind.u8 163) := hc0
    by_cases h2 : l.length < 3
    · have hr := Lib.hid (U.bad2 hpos h1 h2)
      clear U hA
      go_enter Try.func21, Try.ntmps21
      go_wp2
      go_ret3
      exact RetU.bad hr.out
    obtain ⟨b', off', hbo, hc1⟩ := hA.byte (k := 1) (by omega)
    obtain ⟨b'', off'', hbo2, hc2⟩ := hA.byte (k := 2) (by omega)
    simp only [Option.some.injEq, Addr.mk.injEq, and_true] at hbo hbo2
    obtain ⟨rfl, rfl⟩ := hbo
    obtain ⟨rfl, rfl⟩ := hbo2
    have hos := or_shl (l[1]'(by omega)) (l[2]'(by omega))
    have hlt : (l[1]'(by omega)).toNat * 256 + (l[2]'(by omega)).toNat < 65536 := by
      have := (l[1]'(by omega)).isLt
      have := (l[2]'(by omega)).isLt
      omega
    have U3 := Lib.hid (U.bad3 (by omega) h1)
    have U4 := Lib.hid (U.bad4 (by omega) h1)
    have U5 := Lib.hid (U.bad5 (by omega) h1)
    have U6 := Lib.hid (U.good (by omega) h1)
    clear U
    generalize l[1]'(by omega) = x1 at *
    generalize l[2]'(by omega) = x2 at *
    obtain ⟨N, hN⟩ : ∃ N, N = x1.toNat * 256 + x2.toNat := ⟨_, rfl⟩
    rw [← hN] at hos hlt U3 U4 U5 U6
    clear hN
    have h2i : (3 : Int) ≤ (l.length : Int) := by omega
    have h2j : (1 : Int) < (l.length : Int) := by omega
    have h2k : (2 : Int) < (l.length : Int) := by omega
    go_enter Try.func21, Try.ntmps21
    go_wp2
    go_quiet (fail)
    have hbq : Below w.heap.size w (w.drewN nq) := belowN nq
    replace hA := hA.below hbq
    clear hc0 hc1 hc2 hos
    generalize w.drewN nq = wq at *
    by_cases hz : N = 0
    · have hz1 : ((N : Int) == 0) = true := by simp [hz]
      go_wp2
      go_ret3
      exact RetU.bad' (U3.out hz) hbq
    have hz1 : ((N : Int) == 0) = false := by simp [hz]
    by_cases h3 : l.length < N + 7
    · go_wp2
      go_ret3
      exact RetU.bad' (U4.out hz h3) hbq
    have hA3 : At wq (some { block := b, off := off }) (bys (l.take (N + 3))) := by rw [← bys_take]; exact hA.take _
    have hA4 : At wq (some { block := b, off := off + (N + 3) }) (bys ((l.drop (N + 3)).take 4)) := by
      have h := (hA.drop (N + 3) c (by simp; omega)).take 4
      rw [bys_drop, bys_take] at h
      unfold cutA at h
      rw [if_neg (by omega)] at h
      simpa [Addr.add] using h
    have e3 : (l.take (N + 3)).length = N + 3 := by rw [List.length_take]; omega
    have e4 : ((l.drop (N + 3)).take 4).length = 4 := by rw [List.length_take, List.length_drop]; omega
    have s1 : (N : Int) + 7 ≤ c := by omega
    have s3 : (N : Int) + 3 ≤ max ((N : Int) + 7) 0 := by omega
    have p1 : (0 : Int) ≤ (N : Int) + 7 := by omega
    have p2 : (0 : Int) ≤ (N : Int) + 3 := by omega
    have t3 : ((N : Int) + 3).toNat = N + 3 := by omega
    have t7 : ((N : Int) + 7).toNat = N + 7 := by omega
    have s2 : (N : Int) + 3 ≤ c := by omega
    have s5 : N + 7 - (N + 3) = 4 := by omega
    have s4 : ¬ c = N + 3 := by omega
    have E3 := Lib.hid e3
    have E4 := Lib.hid e4
    have HNC := Lib.hid hnc
    clear e3 e4 hnil hnc h2 h2i h2j h2k
    go_wp2
    have w3 : IntKind.i64.wrap ((N : Int) + 3) = (N : Int) + 3 := IntWalk.i64_in _ (by omega)
    have w7 : IntKind.i64.wrap ((N : Int) + 7) = (N : Int) + 7 := IntWalk.i64_in _ (by omega)
    have hA5 : At wq.drew (some { block := b, off := off }) (bys (l.take (N + 3))) := hA3.below (belowN 1)
    have hA6 : At wq.drew (some { block := b, off := off + (N + 3) }) (bys ((l.drop (N + 3)).take 4)) := hA4.below (belowN 1)
    go_region_with (first
      | (go_at_call 33; refine (sum_calls hA5 E3.out.symm (by rw [E3.out]; omega)).mono ?_; rintro e w2 ⟨rfl, rfl⟩)
      | (go_at_call 45; refine (four_calls _).mono ?_; rintro e w2 ⟨A2, c2, rfl, ho2, hb2⟩)
      | (go_at_call 11; refine (equal_calls (hA6.below hb2) (own_at ho2) E4.out.symm rfl).mono ?_; rintro e w3 ⟨rfl, rfl⟩))
    clear w3 w7
    replace hbq : Below w.heap.size w w2 := (hbq.drew).trans (hb2.mono hbq.size)
    replace hA := (hA.below (belowN 1)).below hb2
    clear hA3 hA4 hA5 hA6 ho2 hb2 s1 s2 s3 s4 s5 p1 p2 t3 t7 E3 E4
    go_wp2
    · go_ret3
      have hq : (l.drop (N + 3)).take 4 ≠ be32 (crc (l.take (N + 3))) := by
        intro he
        simp [he] at *
      exact RetU.bad' (U5.out N rfl hz (by omega) hq) hbq
    have hq : (l.drop (N + 3)).take 4 = be32 (crc (l.take (N + 3))) := by
      have hh : (!decide ((l.drop (N + 3)).take 4 = be32 (crc (l.take (N + 3))))) = false := by assumption
      simpa using hh
    have hnc := HNC.out
    have hr := Lib.hid (U6.out N rfl hz (by omega) hq)
    clear hq U3 U4 U5 U6
    have hA7 : At w2.drew (some { block := b, off := off + 3 }) (bys ((l.drop 3).take N)) := by
      have h := ((hA.drop 3 c (by simp; omega)).take N).below (belowN 1)
      rw [bys_drop, bys_take, cutA_some (by omega)] at h
      exact h
    have hA8 : At w2.drew (cutA (some { block := b, off := off }) (N + 7) c) (bys (l.drop (N + 7))) := by
      have h := (hA.drop (N + 7) c (by simp; omega)).below (belowN 1)
      rw [bys_drop] at h
      exact h
    have e7 : ((l.drop 3).take N).length = N := by rw [List.length_take, List.length_drop]; omega
    have e8 : (l.drop (N + 7)).length = l.length - (N + 7) := List.length_drop
    have E7 := Lib.hid e7
    have E8 := Lib.hid e8
    clear e7 e8
    have tk1 : True := trivial
    have q1 : (3 : Int) ≤ (N : Int) + 3 := by omega
    have q2 : (0 : Int) ≤ (N : Int) + 7 := by omega
    have q3 : (N : Int) + 7 ≤ (l.length : Int) := by omega
    have q4 : ¬ N + 3 = 3 := by omega
    have q5 : ((N : Int) + 7).toNat = N + 7 := by omega
    clear HNC h1 hlt h3 h0 hpos hb0
    by_cases hc7 : c = N + 7
    · rw [cutA, if_pos hc7] at hA8
      have hz8 : l.length - (N + 7) = 0 := by omega
      have w7 : IntKind.i64.wrap ((N : Int) + 7) = (N : Int) + 7 := IntWalk.i64_in _ (by omega)
      clear hnc
      subst hc7
      go_region_with (first
        | (go_at_call 19; clear tk1; refine (clone_calls hA7 E7.out.symm (by simp) (by rw [E7.out]; omega)).mono ?_; rintro e w3 ⟨A3, c3, rfl, ho3, hb3⟩)
        | (go_at_call 19; refine (clone_calls (hA8.below hb3) ?e8 (by simp) (by rw [E8.out]; omega)).mono ?_; (case e8 => (first | exact E8.out.symm | (rw [E8.out]; omega))); rintro e w4 ⟨A4, c4, rfl, ho4, hb4⟩))
      go_wp2
      go_ret3
      rw [hr.out]
      exact RetU.mk E7.out.symm (by show _ = (List.drop _ l).length; rw [E8.out, hz8]) rfl (own_below ho3 hb4) hbq.drew.size ho4 (Nat.le_trans hbq.drew.size hb3.size) ((hbq.drew.trans (hb3.mono hbq.drew.size)).trans (hb4.mono (Nat.le_trans hbq.drew.size hb3.size)))
    · rw [cutA_some hc7] at hA8
      have w7 : IntKind.i64.wrap ((N : Int) + 7) = (N : Int) + 7 := IntWalk.i64_in _ (by omega)
      clear hnc
      go_region_with (first
        | (go_at_call 19; clear tk1; refine (clone_calls hA7 E7.out.symm (by simp) (by rw [E7.out]; omega)).mono ?_; rintro e w3 ⟨A3, c3, rfl, ho3, hb3⟩)
        | (go_at_call 19; refine (clone_calls (hA8.below hb3) ?e8 (by simp) (by rw [E8.out]; omega)).mono ?_; (case e8 => (first | exact E8.out.symm | (rw [E8.out]; omega))); rintro e w4 ⟨A4, c4, rfl, ho4, hb4⟩))
      go_wp2
      go_ret3
      rw [hr.out]
      exact RetU.mk E7.out.symm E8.out.symm rfl (own_below ho3 hb4) hbq.drew.size ho4 (Nat.le_trans hbq.drew.size hb3.size) ((hbq.drew.trans (hb3.mono hbq.drew.size)).trans (hb4.mono (Nat.le_trans hbq.drew.size hb3.size)))
  · have hr := Lib.hid (U.bad1 hpos h1)
    have hne := byte_eq_ne _ h1
    clear U hA h1
    go_enter Try.func21, Try.ntmps21
    go_wp2
    go_ret3
    exact RetU.bad hr.out

end Go.Proofs.Ytfcacplecapgfaa
