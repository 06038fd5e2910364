/- The law ChainNext: its walk. -/
import Derived.Test.YtlcchpjficbgmaaC6
namespace Go.Proofs.Ytlcchpjficbgmaa
open Go.RowKit Go.Maps
set_option linter.unusedVariables false
set_option linter.unusedSimpArgs false

/-- Bit i of the mask is set. -/
def bitP (mask : Int) (i : Nat) : Prop := bits .and .u64 (mask / 2 ^ i) 1 = 1
instance (mask : Int) (i : Nat) : Decidable (bitP mask i) := by unfold bitP; infer_instance
def cmOf (i : Int) : Cm := ⟨i, 0, ⟨#[]⟩, 0, 0, 0, 0, 0, 0, 0, 0⟩
def sl (mask : Int) : Nat → List (Int × Cd)
  | 0 => []
  | k + 1 => if bitP mask k then sl mask k ++ [((k : Int) + 1, (cmOf k, []))] else sl mask k
theorem sl_yes {mask : Int} {k : Nat} (h : bitP mask k) : sl mask (k + 1) = sl mask k ++ [((k : Int) + 1, (cmOf k, []))] := by rw [sl, if_pos h]
theorem sl_no {mask : Int} {k : Nat} (h : ¬ bitP mask k) : sl mask (k + 1) = sl mask k := by rw [sl, if_neg h]
theorem sl_len (mask : Int) : ∀ k, (sl mask k).length ≤ k
  | 0 => Nat.le_refl _
  | k + 1 => by
    have := sl_len mask k
    unfold sl
    split
    · simp; omega
    · omega
theorem look_sl (mask : Int) : ∀ (k : Nat) (j : Int), look (sl mask k) j = if 1 ≤ j ∧ j ≤ k ∧ bitP mask (j - 1).toNat then some (cmOf (j - 1), []) else none
  | 0, j => by
    rw [if_neg (by omega)]; rfl
  | k + 1, j => by
    have ih := look_sl mask k j
    unfold sl
    by_cases hb : bitP mask k
    · rw [if_pos hb, look_snoc, ih]
      by_cases hj : j = (k : Int) + 1
      · subst hj
        rw [if_neg (by omega)]
        have e : ((k : Int) + 1 - 1).toNat = k := by omega
        simp only [if_pos]
        rw [if_pos ⟨by omega, by omega, by rw [e]; exact hb⟩]
        congr 2
        congr 1
        omega
      · by_cases hc : 1 ≤ j ∧ j ≤ k ∧ bitP mask (j - 1).toNat
        · rw [if_pos hc]
          have hc2 : 1 ≤ j ∧ j ≤ ((k + 1 : Nat) : Int) ∧ bitP mask (j - 1).toNat := ⟨hc.1, by omega, hc.2.2⟩
          rw [if_pos hc2]
        · rw [if_neg hc]
          simp only [if_neg (Ne.symm hj)]
          rw [if_neg (fun h => hc ⟨h.1, by omega, h.2.2⟩)]
    · rw [if_neg hb, ih]
      by_cases hc : 1 ≤ j ∧ j ≤ k ∧ bitP mask (j - 1).toNat
      · rw [if_pos hc, if_pos ⟨hc.1, by omega, hc.2.2⟩]
      · rw [if_neg hc, if_neg]
        rintro ⟨h1, h2, h3⟩
        by_cases hj : j = (k : Int) + 1
        · subst hj
          rw [show ((k : Int) + 1 - 1).toNat = k by omega] at h3
          exact hb h3
        · exact hc ⟨h1, by omega, h3⟩

/-- So many slots are there, and the next is not: so long is what is told. -/
theorem run_length {S : List (Int × Cd)} : ∀ (k q : Nat) (n : Int), (∀ t : Nat, t < q → look S (n + t) ≠ none) → look S (n + q) = none → (runL S k n).length = min k q
  | 0, q, n, _, _ => by simp [runL]
  | k + 1, 0, n, _, h => by
    simp only [Int.natCast_zero, Int.add_zero] at h
    rw [runL, h]; simp
  | k + 1, q + 1, n, h, h2 => by
    have h0 := h 0 (by omega)
    simp only [Int.natCast_zero, Int.add_zero] at h0
    cases hl : look S n with
    | none => exact absurd hl h0
    | some x =>
      rw [runL, hl]
      have := run_length k q (n + 1) (fun t ht => by
        have := h (t + 1) (by omega)
        rwa [show n + 1 + (t : Int) = n + ((t + 1 : Nat) : Int) by omega]) (by rwa [show n + 1 + (q : Int) = n + ((q + 1 : Nat) : Int) by omega])
      simp [this]

/-- The next slot is the first one that is not there. -/
theorem Chain.next_is {w : World} {p m : Nat} {S : List (Int × Cd)} {nx : Int} (h : Chain w p m S nx) {q : Nat} (h1 : ∀ t : Nat, t < q → look S ((t : Int) + 1) ≠ none) (h2 : look S ((q : Int) + 1) = none) : nx = (q : Int) + 1 := by
  by_cases hlt : nx < (q : Int) + 1
  · have := h1 (nx - 1).toNat (by have := h.pos; omega)
    rw [show (((nx - 1).toNat : Nat) : Int) + 1 = nx by have := h.pos; omega] at this
    exact absurd h.next this
  · by_cases hgt : (q : Int) + 1 < nx
    · exact absurd h2 (h.all _ (by omega) hgt)
    · omega

/-- A From whose answer has so many. -/
theorem from_n {w : World} {p m : Nat} {S : List (Int × Cd)} {nx slot most : Int} (h : ChainAt w p m S nx) (hS : S.length < 1000000) (h1 : (Lit.int .i64 slot).wf = true) (h2 : (Lit.int .i64 most).wf = true) {N : Nat} (hN : (runL S most.toNat (max slot 1)).length = N) :
    Calls Try.prog 14 #[.pointer (some ⟨p, 0, none⟩), .int .i64 slot, .int .i64 most] w fun e w' => ∃ A d, e = .returned (.slice A N d) ∧ Below w.heap.size w w' :=
  (from_calls h hS h1 h2).mono fun e w' ⟨A, n, d, vs, he, hn, _, _, hb⟩ => ⟨A, d, by rw [he, hn, hN], hb⟩

def NextLoop (w : World) (mask : Int) (s : Value) (wr : World) : Prop :=
  ∃ i : Nat, i ≤ 20 ∧ s = .int .i64 ((i : Nat) : Int) ∧ (∃ nx, Chain wr (w.heap.size + 1) w.heap.size (sl mask i) nx) ∧ Below w.heap.size w wr

set_option maxHeartbeats 1000000 in
set_option maxRecDepth 100000 in
theorem chainNext_calls {w : World} {mask : Int} (hm : 0 ≤ mask ∧ mask ≤ 18446744073709551615) :
    Calls Try.prog 4 #[.int .u64 mask] w (RetV w (.bool true)) := by
  have tk1 : True := trivial
  go_enter Try.func4, Try.ntmps4
  go_wp2_with (go_at_call 9; refine (new_calls w).mono ?_; rintro e w1 ⟨rfl, hch, hb1⟩)
  go_loopw [7] (fun s wr => NextLoop w mask s wr) (fun s _ => 20 - (intOf s).toNat)
  case atStart => exact ⟨0, by omega, rfl, ⟨1, hch, by omega, by intro j h1 h2; omega, rfl, by intro e he; cases he⟩, hb1⟩
  case round =>
    clear hch hb1 w1
    obtain ⟨i, hi, rfl, ⟨nx, hch⟩, hB⟩ := hrel
    by_cases hlt : i < 20
    · have hl0 : look (sl mask i) ((i : Int) + 1) = none := by rw [look_sl, if_neg (by omega)]
      have hlen := Lib.hid (sl_len mask i)
      by_cases hb : bitP mask i
      · have HR := Lib.hid (by unfold learnR; rw [if_neg (by omega), hl0] : learnR (sl mask i) ((i : Int) + 1) (cmOf i, []) = 0)
        have HS := Lib.hid (by unfold learnS; rw [if_neg (by omega), hl0, sl_yes hb] : learnS (sl mask i) ((i : Int) + 1) (cmOf i, []) = sl mask (i + 1))
        have hb' : bits .and .u64 (mask / 2 ^ i) 1 = 1 := hb
        clear hl0 hb
        have hso : SumOk (cmOf i) := by unfold SumOk cmOf; simp
        go_wp2_with (go_at_call 10; refine (learn_calls (x := (cmOf i, [])) hch (WalkArith.wf_i64 (by omega)) (by have := hlen.out; omega) (At.nil _ _) rfl (fun _ => rfl) (by simp) hso).mono ?_; rintro e w2 ⟨rfl, hU, nx2, hch2⟩; rw [HR.out])
        rw [HS.out] at hch2
        exact ⟨⟨i + 1, by omega, by go_num, ⟨nx2, hch2⟩, hB.trans (hU.below (by omega) (by omega) hB.size)⟩, by simp [intOf]; omega⟩
      · have HS := Lib.hid (sl_no hb : sl mask (i + 1) = sl mask i)
        have hb' : ¬ bits .and .u64 (mask / 2 ^ i) 1 = 1 := hb
        clear hl0 hb
        go_wp2_with fail
        exact ⟨⟨i + 1, by omega, by go_num, ⟨nx, by rw [HS.out]; exact hch⟩, hB⟩, by simp [intOf]; omega⟩
    · obtain rfl : i = 20 := by omega
      go_wp2_with fail
      go_loop [4] (fun s => ∃ q : Nat, q ≤ 20 ∧ s = .int .i64 ((q : Nat) + 1 : Int) ∧ Hid (∀ t : Nat, t < q → bitP mask t)) (fun s => 21 - (intOf s).toNat)
      case atStart => exact ⟨0, by omega, by go_num, fun t ht => by omega⟩
      case round =>
        obtain ⟨q, hq, rfl, hall⟩ := hrel
        by_cases hc : q < 20 ∧ bitP mask q
        · have hlt2 := hc.1
          have hb' : bits .and .u64 (mask / 2 ^ q) 1 = 1 := hc.2
          have HA : Hid (∀ t : Nat, t < q + 1 → bitP mask t) := fun t ht => by
            by_cases h : t < q
            · exact hall.out t h
            · obtain rfl : t = q := by omega
              exact hc.2
          clear hc
          go_wp2_with fail
          refine ⟨⟨q + 1, by omega, by omega, HA⟩, ?_⟩
          simp [intOf]; omega
        · have hno : look (sl mask 20) ((q : Int) + 1) = none := by
            rw [look_sl, if_neg]
            rintro ⟨_, h2, h⟩
            rw [show ((q : Int) + 1 - 1).toNat = q by omega] at h
            exact hc ⟨by omega, h⟩
          have hyes : ∀ t : Nat, t < q → look (sl mask 20) ((t : Int) + 1) ≠ none := by
            intro t ht
            rw [look_sl, if_pos ⟨by omega, by omega, by rw [show ((t : Int) + 1 - 1).toNat = t by omega]; exact hall.out t ht⟩]
            simp
          have hnx := hch.next_is hyes hno
          subst hnx
          have hlen := Lib.hid (sl_len mask 20)
          have L1 := Lib.hid (by rw [show max (-5 : Int) 1 = 1 by decide, run_length (100 : Int).toNat q 1 (fun t ht => by rw [Int.add_comm]; exact hyes t ht) (by rw [Int.add_comm]; exact hno)]; show min 100 q = q; omega : (runL (sl mask 20) (100 : Int).toNat (max (-5) 1)).length = q)
          have hL2 : (runL (sl mask 20) (3 : Int).toNat (max 1 1)).length = min 3 q := by rw [show max (1 : Int) 1 = 1 by decide, run_length (3 : Int).toNat q 1 (fun t ht => by rw [Int.add_comm]; exact hyes t ht) (by rw [Int.add_comm]; exact hno)]; rfl
          have hcs : (q < 20 ∧ ¬ bitP mask q ∧ q < 3) ∨ (q < 20 ∧ ¬ bitP mask q ∧ 3 ≤ q) ∨ q = 20 := by
            by_cases h : q < 20
            · have : ¬ bitP mask q := fun h' => hc ⟨h, h'⟩
              by_cases h3 : q < 3
              · exact .inl ⟨h, this, h3⟩
              · exact .inr (.inl ⟨h, this, by omega⟩)
            · exact .inr (.inr (by omega))
          clear hc hyes hno
          rcases hcs with ⟨h1, h2, h3⟩ | ⟨h1, h2, h3⟩ | h1
          · have L2 := Lib.hid (by rw [hL2]; omega : (runL (sl mask 20) (3 : Int).toNat (max 1 1)).length = q)
            have hb' : ¬ bits .and .u64 (mask / 2 ^ q) 1 = 1 := h2
            clear h2 hL2
            go_wp2_with (first
              | (go_at_call 13; refine (next_calls hch.at').mono ?_; rintro e w2 ⟨rfl, rfl⟩)
              | (go_at_call 14; clear tk1; refine (from_n hch.at' (by have := hlen.out; omega) (by decide) (by decide) L1.out).mono ?_; rintro e w2 ⟨A1, d1, rfl, hb1⟩)
              | (go_at_call 14; refine (from_n (hch.at'.below hb1) (by have := hlen.out; omega) (by decide) (by decide) L2.out).mono ?_; rintro e w3 ⟨A2, d2, rfl, hb2⟩))
            go_ret
            exact ⟨rfl, (hB.trans (hb1.mono hB.size)).trans (hb2.mono (Nat.le_trans hB.size hb1.size))⟩
          · have L2 := Lib.hid (by rw [hL2]; omega : (runL (sl mask 20) (3 : Int).toNat (max 1 1)).length = 3)
            have hb' : ¬ bits .and .u64 (mask / 2 ^ q) 1 = 1 := h2
            clear h2 hL2
            go_wp2_with (first
              | (go_at_call 13; refine (next_calls hch.at').mono ?_; rintro e w2 ⟨rfl, rfl⟩)
              | (go_at_call 14; clear tk1; refine (from_n hch.at' (by have := hlen.out; omega) (by decide) (by decide) L1.out).mono ?_; rintro e w2 ⟨A1, d1, rfl, hb1⟩)
              | (go_at_call 14; refine (from_n (hch.at'.below hb1) (by have := hlen.out; omega) (by decide) (by decide) L2.out).mono ?_; rintro e w3 ⟨A2, d2, rfl, hb2⟩))
            go_ret
            exact ⟨rfl, (hB.trans (hb1.mono hB.size)).trans (hb2.mono (Nat.le_trans hB.size hb1.size))⟩
          · subst h1
            have L2 := Lib.hid (by rw [hL2]; omega : (runL (sl mask 20) (3 : Int).toNat (max 1 1)).length = 3)
            clear hL2
            go_wp2_with (first
              | (go_at_call 13; refine (next_calls hch.at').mono ?_; rintro e w2 ⟨rfl, rfl⟩)
              | (go_at_call 14; clear tk1; refine (from_n hch.at' (by have := hlen.out; omega) (by decide) (by decide) L1.out).mono ?_; rintro e w2 ⟨A1, d1, rfl, hb1⟩)
              | (go_at_call 14; refine (from_n (hch.at'.below hb1) (by have := hlen.out; omega) (by decide) (by decide) L2.out).mono ?_; rintro e w3 ⟨A2, d2, rfl, hb2⟩))
            go_ret
            exact ⟨rfl, (hB.trans (hb1.mono hB.size)).trans (hb2.mono (Nat.le_trans hB.size hb1.size))⟩

end Go.Proofs.Ytlcchpjficbgmaa
