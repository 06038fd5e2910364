/- Contracts: galois, on. -/
import Derived.Test.YtibidlgikecelaaDoorW1
namespace Go.Proofs.YtibidlgikecelaaDoor
open Go.RowKit
set_option linter.unusedVariables false
set_option linter.unusedSimpArgs false

/-- The table, as memory holds it. -/
abbrev FoldAt (w : World) : Prop := At w (some ⟨0, 0, none⟩) (bys foldT)
def foldG (x : B16) : B8 := sel (x.getLsbD 0) 0x1d#8 ^^^ (sel (x.getLsbD 1) 0x3a#8 ^^^ (sel (x.getLsbD 2) 0x74#8 ^^^ sel (x.getLsbD 3) 0xe8#8))
theorem fold_tab : ∀ n, n < 16 → foldT[n]? = some (foldG (BitVec.ofNat 16 n)) := by decide +kernel
theorem fold_ix (p : B16) : (p >>> 8 &&& 15#16).toNat < 16 := by
  rw [BitVec.toNat_and]
  exact Nat.lt_of_le_of_lt Nat.and_le_right (by decide)
theorem fold_at (p : B16) : foldT[(p >>> 8 &&& 15#16).toNat]? = some (foldF p) := by
  rw [fold_tab _ (fold_ix p), BitVec.ofNat_toNat]
  simp [foldG, foldF]

set_option maxHeartbeats 400000 in
set_option maxRecDepth 100000 in
theorem settle_calls {w : World} (p : B16) (hF : FoldAt w) : Calls Tryd.prog 90 #[.int .u16 (p.toNat : Int)] w fun e w' => e = .returned (.int .u8 ((settleF p).toNat : Int)) ∧ w = w' := by
  have h1 : bits .and .u16 ((p.toNat : Int) / 256) 15 = ((p >>> 8 &&& 15#16).toNat : Int) := by
    rw [show (p.toNat : Int) / (256 : Int) = ((p >>> 8).toNat : Int) by simp [BitVec.toNat_ushiftRight, Nat.shiftRight_eq_div_pow], show (15 : Int) = ((15#16 : B16).toNat : Int) by rfl, bits16_and]
  have hlt := fold_ix p
  have hv := hF (p >>> 8 &&& 15#16).toNat (bv (foldF p)) (by rw [bys_getElem?, fold_at]; rfl)
  obtain ⟨b0, o0, he, hc⟩ := hv
  cases he
  simp only [Nat.zero_add] at hc
  unfold bv at hc
  have hx := Lib.hid (b8_xor (p.setWidth 8) (foldF p))
  have hw : ((p.toNat : Int) % 256) = ((p.setWidth 8).toNat : Int) := by simp [BitVec.toNat_setWidth]
  generalize (p >>> 8 &&& 15#16).toNat = i at *
  have HW := Lib.hid hw
  clear hw
  show Calls _ _ _ _ fun e w' => e = .returned (.int .u8 ((p.setWidth 8 ^^^ foldF p).toNat : Int)) ∧ w = w'
  generalize foldF p = y at *
  generalize p.setWidth 8 = z at *
  generalize p.toNat = n at *
  go_enter Tryd.func90, Tryd.ntmps90
  go_wp2
  go_ret
  exact ⟨by rw [← hx.out, ← HW.out]; rfl, rfl⟩

/-- A call answers a byte, and lays no more than what is new. -/
def RetY (w : World) (x : B8) (e : Ending) (w' : World) : Prop := e = .returned (.int .u8 (x.toNat : Int)) ∧ Below w.heap.size w w'

set_option maxHeartbeats 400000 in
set_option maxRecDepth 100000 in
theorem mul_calls {w : World} (a b : B8) (hF : FoldAt w) : Calls Tryd.prog 66 #[.int .u8 (a.toNat : Int), .int .u8 (b.toNat : Int)] w (RetY w (gm a b)) := by
  have HM := Lib.hid (mulF_eq a b).symm
  have h1 : (b.toNat : Int) / (16 : Int) = ((b >>> 4).toNat : Int) := by simpa using shr8 b 4
  have h2 : bits .and .u8 (b.toNat : Int) (15 : Int) = ((b &&& 15#8).toNat : Int) := by simpa using b8_and b 15#8
  unfold mulF at HM
  generalize gm a b = r at *
  generalize b >>> 4 = b1 at *
  generalize b &&& 15#8 = b2 at *
  generalize hp1 : partF a b1 = p1 at *
  generalize hp2 : partF a b2 = p2 at *
  generalize hs1 : settleF p1 = s1 at *
  have h3 : bits .xor .u16 ((s1.toNat : Int) * (16 : Int)) (p2.toNat : Int) = ((s1.setWidth 16 <<< 4 ^^^ p2).toNat : Int) := by
    rw [← bits16_xor]
    congr 1
    have := s1.isLt
    simp [BitVec.toNat_shiftLeft, Nat.shiftLeft_eq]
    omega
  generalize s1.setWidth 16 <<< 4 ^^^ p2 = p3 at *
  generalize hs3 : settleF p3 = s3 at *
  have P1 := Lib.hid hp1
  have P2 := Lib.hid hp2
  have S1 := Lib.hid hs1
  have S3 := Lib.hid hs3
  clear hp1 hp2 hs1 hs3
  go_enter Tryd.func66, Tryd.ntmps66
  go_wp2_with fail
  refine (part_calls a b1).mono ?_
  rw [P1.out]
  rintro e w1 ⟨rfl, hb1⟩
  go_wp2_with fail
  refine (settle_calls p1 (hF.below hb1)).mono ?_
  rw [S1.out]
  rintro e w' ⟨rfl, rfl⟩
  go_wp2_with fail
  refine (part_calls a b2).mono ?_
  rw [P2.out]
  rintro e w2 ⟨rfl, hb2⟩
  go_wp2_with fail
  refine (settle_calls p3 ((hF.below hb1).below hb2)).mono ?_
  rw [S3.out]
  rintro e w' ⟨rfl, rfl⟩
  go_wp2_with fail
  go_ret
  exact ⟨by rw [HM.out]; rfl, hb1.trans (hb2.mono hb1.size)⟩

/-- The powers by squares, as the loop goes. -/
def powF : Nat → Nat → B8 → B8 → B8
  | 0, _, _, o => o
  | f + 1, n, a, o => if n = 0 then o else powF f (n / 2) (gm a a) (if n % 2 = 1 then gm o a else o)
theorem powF_gi (a : B8) : powF 8 254 a 1#8 = gi a := by
  simp [powF, gi, sq, one_gm]
theorem and1_i64 : ∀ n, n < 255 → bits .and .i64 ((n : Nat) : Int) 1 = ((n % 2 : Nat) : Int) := by decide +kernel
def RsLoop (w : World) (r : B8) (s0 s1 s5 : Value) (wr : World) : Prop :=
  ∃ (f n : Nat) (a o : B8), n < 2 ^ f ∧ n ≤ 254 ∧ powF f n a o = r ∧ s0 = .int .u8 (a.toNat : Int) ∧ s1 = .int .i64 ((n : Nat) : Int) ∧ s5 = .int .u8 (o.toNat : Int) ∧ Below w.heap.size w wr

set_option maxHeartbeats 400000 in
set_option maxRecDepth 100000 in
theorem raise_calls {w : World} (a : B8) (hF : FoldAt w) : Calls Tryd.prog 89 #[.int .u8 (a.toNat : Int), .int .i64 254] w (RetY w (gi a)) := by
  have h0 := powF_gi a
  generalize gi a = r at *
  have H0 := Lib.hid h0
  clear h0
  go_enter Tryd.func89, Tryd.ntmps89
  go_wp2_with fail
  go_loopw [0, 1, 5] (fun s0 s1 s5 wr => RsLoop w r s0 s1 s5 wr) (fun _ s1 _ _ => (intOf s1).toNat)
  case atStart => exact ⟨8, 254, a, 1#8, by decide, by decide, H0.out, rfl, rfl, rfl, Below.refl _ _⟩
  case round =>
    clear H0
    obtain ⟨f, n, a, o, hnf, hn, hp, rfl, rfl, rfl, hB⟩ := hrel
    have hFr := hF.below hB
    by_cases h0 : n = 0
    · subst h0
      have hr : o = r := by
        cases f with
        | zero => exact hp
        | succ f => simpa [powF] using hp
      have HR := Lib.hid hr
      clear hp hr
      go_wp2_with fail
      go_ret
      exact ⟨by rw [← HR.out]; rfl, hB⟩
    · obtain ⟨f, rfl⟩ : ∃ g, f = g + 1 := by
        cases f with
        | zero => simp at hnf; omega
        | succ g => exact ⟨g, rfl⟩
      rw [powF, if_neg h0] at hp
      have hpos : (0 : Int) < (n : Int) := by omega
      have hf2 : n / 2 < 2 ^ f := by rw [Nat.pow_succ] at hnf; omega
      by_cases ho : n % 2 = 1
      · rw [if_pos ho] at hp
        have HP := Lib.hid hp
        have hb : (bits .and .i64 (n : Int) 1 == 1) = true := by rw [and1_i64 n (by omega), ho]; rfl
        clear hp ho hnf
        go_wp2_with fail
        refine (mul_calls o a hFr).mono ?_
        rintro e w1 ⟨rfl, hb1⟩
        generalize gm o a = o1 at *
        go_wp2_with fail
        refine (mul_calls a a (hFr.below hb1)).mono ?_
        rintro e w2 ⟨rfl, hb2⟩
        generalize gm a a = a1 at *
        go_wp2_with fail
        have hz := hB.size
        have hz1 := hb1.size
        exact ⟨⟨f, n / 2, a1, o1, hf2, by omega, HP.out, rfl, by go_num, rfl, (hB.trans (hb1.mono hz)).trans (hb2.mono (by omega))⟩, by simp [intOf]; omega⟩
      · rw [if_neg ho] at hp
        have HP := Lib.hid hp
        have hb : (bits .and .i64 (n : Int) 1 == 1) = false := by rw [and1_i64 n (by omega), show n % 2 = 0 by omega]; rfl
        clear hp ho hnf
        go_wp2_with fail
        refine (mul_calls a a hFr).mono ?_
        rintro e w2 ⟨rfl, hb2⟩
        generalize gm a a = a1 at *
        go_wp2_with fail
        have hz := hB.size
        exact ⟨⟨f, n / 2, a1, o, hf2, by omega, HP.out, rfl, by go_num, rfl, hB.trans (hb2.mono hz)⟩, by simp [intOf]; omega⟩

/-- The inverse, where there is one. -/
theorem inv_calls {w : World} (a : B8) (hF : FoldAt w) (ha : a ≠ 0#8) : Calls Tryd.prog 65 #[.int .u8 (a.toNat : Int)] w fun e w' => e = .returned (.tuple #[.int .u8 ((gi a).toNat : Int), .int .i64 0]) ∧ Below w.heap.size w w' := by
  have h0 : ((a.toNat : Int) == 0) = false := by
    have : a.toNat ≠ 0 := fun h => ha (BitVec.eq_of_toNat_eq (by simpa using h))
    simp; omega
  generalize hr : gi a = r at *
  have HR := Lib.hid hr
  clear hr
  go_enter Tryd.func65, Tryd.ntmps65
  go_wp2_with fail
  refine (raise_calls a hF).mono ?_
  rw [HR.out]
  rintro e w1 ⟨rfl, hb⟩
  go_wp2_with fail
  go_ret2
  exact ⟨rfl, hb⟩
theorem inv0_calls {w : World} : Calls Tryd.prog 65 #[.int .u8 0] w fun e w' => e = .returned (.tuple #[.int .u8 0, .int .i64 1]) ∧ w = w' := by
  go_enter Tryd.func65, Tryd.ntmps65
  go_wp2_with fail
  go_ret2
  exact ⟨rfl, rfl⟩

end Go.Proofs.YtibidlgikecelaaDoor
