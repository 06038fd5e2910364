/- Contracts: galois. Contracts: galois, on. Contracts: the document's products (amphoraref01). Contracts: the document's quotients (amphoraref01.Div, Inv). -/
import Derived.Test.YtibidlgikecelaaDoorV
import Derived.Test.YtibidlgikecelaaDoorGA
import Derived.Test.YtibidlgikecelaaDoorChecked
namespace Go.Proofs.YtibidlgikecelaaDoor
open Go.RowKit
set_option linter.unusedVariables false
set_option linter.unusedSimpArgs false

theorem b8_gen (f : B8 → B8 → B8) (op : BinOp) (hop : ∀ x y, bits op .u8 x y = IntKind.u8.wrap ((f (BitVec.ofInt 8 x) (BitVec.ofInt 8 y)).toNat : Int)) (a b : B8) :
    bits op .u8 (a.toNat : Int) (b.toNat : Int) = ((f a b).toNat : Int) := by
  rw [hop, IntKind.wrap_u8]
  have ha : BitVec.ofInt 8 (a.toNat : Int) = a := by simp
  have hb : BitVec.ofInt 8 (b.toNat : Int) = b := by simp
  rw [ha, hb]
  have := (f a b).isLt
  omega
theorem b8_xor (a b : B8) : bits .xor .u8 (a.toNat : Int) (b.toNat : Int) = ((a ^^^ b).toNat : Int) := b8_gen (· ^^^ ·) .xor (fun _ _ => rfl) a b
theorem b8_and (a b : B8) : bits .and .u8 (a.toNat : Int) (b.toNat : Int) = ((a &&& b).toNat : Int) := b8_gen (· &&& ·) .and (fun _ _ => rfl) a b
theorem bits16 (f : B16 → B16 → B16) (op : BinOp) (hop : ∀ x y, bits op .u16 x y = IntKind.u16.wrap ((f (BitVec.ofInt 16 x) (BitVec.ofInt 16 y)).toNat : Int)) (a b : B16) :
    bits op .u16 (a.toNat : Int) (b.toNat : Int) = ((f a b).toNat : Int) := by
  rw [hop, IntKind.wrap_u16]
  have ha : BitVec.ofInt 16 (a.toNat : Int) = a := by simp
  have hb : BitVec.ofInt 16 (b.toNat : Int) = b := by simp
  rw [ha, hb]
  have := (f a b).isLt
  omega
theorem bits16_xor (a b : B16) : bits .xor .u16 (a.toNat : Int) (b.toNat : Int) = ((a ^^^ b).toNat : Int) := bits16 (· ^^^ ·) .xor (fun _ _ => rfl) a b
theorem bits16_and (a b : B16) : bits .and .u16 (a.toNat : Int) (b.toNat : Int) = ((a &&& b).toNat : Int) := bits16 (· &&& ·) .and (fun _ _ => rfl) a b

/-- The parts of partF, one by one. -/
def partK (a b : B8) : Nat → B16
  | 0 => 0#16
  | k + 1 => partK a b k ^^^ sel (b.getLsbD k) (a.setWidth 16 <<< k)
theorem partK_four (a b : B8) : partK a b 4 = partF a b := by
  simp [partK, partF, BitVec.xor_assoc]
theorem low_bit (x : B8) : ((x &&& 1#8).toNat : Int) = if x.getLsbD 0 then 1 else 0 := by
  revert x; decide +kernel
theorem shr8 (b : B8) (k : Nat) : (b.toNat : Int) / 2 ^ k = ((b >>> k).toNat : Int) := by
  simp [BitVec.toNat_ushiftRight, Nat.shiftRight_eq_div_pow]
theorem part_term (a b : B8) {k : Nat} (hk : k < 4) : IntKind.u16.wrap ((a.toNat : Int) * 2 ^ k * IntKind.u16.wrap (bits .and .u8 ((b.toNat : Int) / 2 ^ k) 1)) = ((sel (b.getLsbD k) (a.setWidth 16 <<< k)).toNat : Int) := by
  have h1 : bits .and .u8 ((b.toNat : Int) / 2 ^ k) 1 = if b.getLsbD k then 1 else 0 := by
    rw [shr8, show (1 : Int) = ((1#8 : B8).toNat : Int) by rfl, b8_and, low_bit]
    simp
  rw [h1]
  have ha := a.isLt
  cases hb : b.getLsbD k with
  | false => simp [sel, IntKind.wrap_u16]
  | true =>
    rcases (by omega : k = 0 ∨ k = 1 ∨ k = 2 ∨ k = 3) with rfl | rfl | rfl | rfl <;>
      (simp [sel, IntKind.wrap_u16, BitVec.toNat_shiftLeft, Nat.shiftLeft_eq] <;> omega)
theorem part_step (a b : B8) {k : Nat} (hk : k < 4) : bits .xor .u16 ((partK a b k).toNat : Int) (IntKind.u16.wrap ((a.toNat : Int) * 2 ^ k * IntKind.u16.wrap (bits .and .u8 ((b.toNat : Int) / 2 ^ k) 1))) = ((partK a b (k + 1)).toNat : Int) := by
  rw [part_term a b hk, bits16_xor]; rfl

set_option maxHeartbeats 400000 in
set_option maxRecDepth 100000 in
theorem add_calls {w : World} (a b : B8) : Calls Tryd.prog 72 #[.int .u8 (a.toNat : Int), .int .u8 (b.toNat : Int)] w fun e w' => e = .returned (.int .u8 ((a ^^^ b).toNat : Int)) ∧ w = w' := by
  go_enter Tryd.func72, Tryd.ntmps72
  go_wp2
  go_ret
  exact ⟨by rw [← b8_xor]; rfl, rfl⟩

set_option maxHeartbeats 400000 in
set_option maxRecDepth 100000 in
theorem part_calls {w : World} (a b : B8) : Calls Tryd.prog 91 #[.int .u8 (a.toNat : Int), .int .u8 (b.toNat : Int)] w fun e w' => e = .returned (.int .u16 ((partF a b).toNat : Int)) ∧ Below w.heap.size w w' := by
  go_enter Tryd.func91, Tryd.ntmps91
  go_wp2
  go_loopw [5, 7] (fun s5 s7 wr => ∃ k : Nat, k ≤ 4 ∧ s7 = .int .i64 ((k : Nat) : Int) ∧ s5 = .int .u16 ((partK a b k).toNat : Int) ∧ Below w.heap.size w wr) (fun _ s7 _ => 4 - (intOf s7).toNat)
  case atStart => exact ⟨0, by omega, rfl, rfl, Below.refl _ _⟩
  case round =>
    obtain ⟨k, hk, rfl, rfl, hB⟩ := hrel
    by_cases hlt : k < 4
    · have hs := part_step a b hlt
      generalize hp : partK a b k = p at *
      generalize hq : partK a b (k + 1) = q at *
      have HS := Lib.hid hs
      have HQ := Lib.hid hq
      clear hs hp hq
      rcases (by omega : k = 0 ∨ k = 1 ∨ k = 2 ∨ k = 3) with rfl | rfl | rfl | rfl
      · go_wp2
        go_quiet (fail)
        go_wp2
        refine ⟨⟨1, by omega, rfl, ?_, hB.trans ((belowN _).mono hB.size)⟩, by simp [intOf]⟩
        have hs := HS.out
        rw [HQ.out]
        simpa using hs
      · go_wp2
        go_quiet (fail)
        go_wp2
        refine ⟨⟨2, by omega, rfl, ?_, hB.trans ((belowN _).mono hB.size)⟩, by simp [intOf]⟩
        have hs := HS.out
        rw [HQ.out]
        simpa using hs
      · go_wp2
        go_quiet (fail)
        go_wp2
        refine ⟨⟨3, by omega, rfl, ?_, hB.trans ((belowN _).mono hB.size)⟩, by simp [intOf]⟩
        have hs := HS.out
        rw [HQ.out]
        simpa using hs
      · go_wp2
        go_quiet (fail)
        go_wp2
        refine ⟨⟨4, by omega, rfl, ?_, hB.trans ((belowN _).mono hB.size)⟩, by simp [intOf]⟩
        have hs := HS.out
        rw [HQ.out]
        simpa using hs
    · obtain rfl : k = 4 := by omega
      go_wp2
      go_ret
      exact ⟨by rw [← partK_four]; rfl, hB⟩

end Go.Proofs.YtibidlgikecelaaDoor

namespace Go.Proofs.YtibidlgikecelaaDoor
open Go.RowKit
set_option linter.unusedVariables false
set_option linter.unusedSimpArgs false

/-- The table, as memory holds it. -/
abbrev FoldAt (w : World) : Prop := At w (some ⟨0, 0, none⟩) (bys foldT)
def foldG (x : B16) : B8 := sel (x.getLsbD 0) 0x1d#8 ^^^ (sel (x.getLsbD 1) 0x3a#8 ^^^ (sel (x.getLsbD 2) 0x74#8 ^^^ sel (x.getLsbD 3) 0xe8#8))
theorem fold_tab : ∀ n, n < 16 → foldT[n]? = some (foldG (BitVec.ofNat 16 n)) := by decide +kernel
theorem fold_ix (p : B16) : (p >>> 8 &&& 15#16).toNat < 16 := by
  rw [BitVec.toNat_and]
  exact Nat.lt_of_le_of_lt Nat.and_le_right (by decide)
theorem fold_at (p : B16) : foldT[(p >>> 8 &&& 15#16).toNat]? = some (foldF p) := by
  rw [fold_tab _ (fold_ix p), BitVec.ofNat_toNat]
  simp [foldG, foldF]

set_option maxHeartbeats 400000 in
set_option maxRecDepth 100000 in
theorem settle_calls {w : World} (p : B16) (hF : FoldAt w) : Calls Tryd.prog 90 #[.int .u16 (p.toNat : Int)] w fun e w' => e = .returned (.int .u8 ((settleF p).toNat : Int)) ∧ w = w' := by
  have h1 : bits .and .u16 ((p.toNat : Int) / 256) 15 = ((p >>> 8 &&& 15#16).toNat : Int) := by
    rw [show (p.toNat : Int) / (256 : Int) = ((p >>> 8).toNat : Int) by simp [BitVec.toNat_ushiftRight, Nat.shiftRight_eq_div_pow], show (15 : Int) = ((15#16 : B16).toNat : Int) by rfl, bits16_and]
  have hlt := fold_ix p
  have hv := hF (p >>> 8 &&& 15#16).toNat (bv (foldF p)) (by rw [bys_getElem?, fold_at]; rfl)
  obtain ⟨b0, o0, he, hc⟩ := hv
  cases he
  simp only [Nat.zero_add] at hc
  unfold bv at hc
  have hx := Lib.hid (b8_xor (p.setWidth 8) (foldF p))
  have hw : ((p.toNat : Int) % 256) = ((p.setWidth 8).toNat : Int) := by simp [BitVec.toNat_setWidth]
  generalize (p >>> 8 &&& 15#16).toNat = i at *
  have HW := Lib.hid hw
  clear hw
  show Calls _ _ _ _ fun e w' => e = .returned (.int .u8 ((p.setWidth 8 ^^^ foldF p).toNat : Int)) ∧ w = w'
  generalize foldF p = y at *
  generalize p.setWidth 8 = z at *
  generalize p.toNat = n at *
  go_enter Tryd.func90, Tryd.ntmps90
  go_wp2
  go_ret
  exact ⟨by rw [← hx.out, ← HW.out]; rfl, rfl⟩

/-- A call answers a byte, and lays no more than what is new. -/
def RetY (w : World) (x : B8) (e : Ending) (w' : World) : Prop := e = .returned (.int .u8 (x.toNat : Int)) ∧ Below w.heap.size w w'

set_option maxHeartbeats 400000 in
set_option maxRecDepth 100000 in
theorem mul_calls {w : World} (a b : B8) (hF : FoldAt w) : Calls Tryd.prog 66 #[.int .u8 (a.toNat : Int), .int .u8 (b.toNat : Int)] w (RetY w (gm a b)) := by
  have HM := Lib.hid (mulF_eq a b).symm
  have h1 : (b.toNat : Int) / (16 : Int) = ((b >>> 4).toNat : Int) := by simpa using shr8 b 4
  have h2 : bits .and .u8 (b.toNat : Int) (15 : Int) = ((b &&& 15#8).toNat : Int) := by simpa using b8_and b 15#8
  unfold mulF at HM
  generalize gm a b = r at *
  generalize b >>> 4 = b1 at *
  generalize b &&& 15#8 = b2 at *
  generalize hp1 : partF a b1 = p1 at *
  generalize hp2 : partF a b2 = p2 at *
  generalize hs1 : settleF p1 = s1 at *
  have h3 : bits .xor .u16 ((s1.toNat : Int) * (16 : Int)) (p2.toNat : Int) = ((s1.setWidth 16 <<< 4 ^^^ p2).toNat : Int) := by
    rw [← bits16_xor]
    congr 1
    have := s1.isLt
    simp [BitVec.toNat_shiftLeft, Nat.shiftLeft_eq]
    omega
  generalize s1.setWidth 16 <<< 4 ^^^ p2 = p3 at *
  generalize hs3 : settleF p3 = s3 at *
  have P1 := Lib.hid hp1
  have P2 := Lib.hid hp2
  have S1 := Lib.hid hs1
  have S3 := Lib.hid hs3
  clear hp1 hp2 hs1 hs3
  go_enter Tryd.func66, Tryd.ntmps66
  go_wp2_with fail
  refine (part_calls a b1).mono ?_
  rw [P1.out]
  rintro e w1 ⟨rfl, hb1⟩
  go_wp2_with fail
  refine (settle_calls p1 (hF.below hb1)).mono ?_
  rw [S1.out]
  rintro e w' ⟨rfl, rfl⟩
  go_wp2_with fail
  refine (part_calls a b2).mono ?_
  rw [P2.out]
  rintro e w2 ⟨rfl, hb2⟩
  go_wp2_with fail
  refine (settle_calls p3 ((hF.below hb1).below hb2)).mono ?_
  rw [S3.out]
  rintro e w' ⟨rfl, rfl⟩
  go_wp2_with fail
  go_ret
  exact ⟨by rw [HM.out]; rfl, hb1.trans (hb2.mono hb1.size)⟩

/-- The powers by squares, as the loop goes. -/
def powF : Nat → Nat → B8 → B8 → B8
  | 0, _, _, o => o
  | f + 1, n, a, o => if n = 0 then o else powF f (n / 2) (gm a a) (if n % 2 = 1 then gm o a else o)
theorem powF_gi (a : B8) : powF 8 254 a 1#8 = gi a := by
  simp [powF, gi, sq, one_gm]
theorem and1_i64 : ∀ n, n < 255 → bits .and .i64 ((n : Nat) : Int) 1 = ((n % 2 : Nat) : Int) := by decide +kernel
def RsLoop (w : World) (r : B8) (s0 s1 s5 : Value) (wr : World) : Prop :=
  ∃ (f n : Nat) (a o : B8), n < 2 ^ f ∧ n ≤ 254 ∧ powF f n a o = r ∧ s0 = .int .u8 (a.toNat : Int) ∧ s1 = .int .i64 ((n : Nat) : Int) ∧ s5 = .int .u8 (o.toNat : Int) ∧ Below w.heap.size w wr

set_option maxHeartbeats 400000 in
set_option maxRecDepth 100000 in
theorem raise_calls {w : World} (a : B8) (hF : FoldAt w) : Calls Tryd.prog 89 #[.int .u8 (a.toNat : Int), .int .i64 254] w (RetY w (gi a)) := by
  have h0 := powF_gi a
  generalize gi a = r at *
  have H0 := Lib.hid h0
  clear h0
  go_enter Tryd.func89, Tryd.ntmps89
  go_wp2_with fail
  go_loopw [0, 1, 5] (fun s0 s1 s5 wr => RsLoop w r s0 s1 s5 wr) (fun _ s1 _ _ => (intOf s1).toNat)
  case atStart => exact ⟨8, 254, a, 1#8, by decide, by decide, H0.out, rfl, rfl, rfl, Below.refl _ _⟩
  case round =>
    clear H0
    obtain ⟨f, n, a, o, hnf, hn, hp, rfl, rfl, rfl, hB⟩ := hrel
    have hFr := hF.below hB
    by_cases h0 : n = 0
    · subst h0
      have hr : o = r := by
        cases f with
        | zero => exact hp
        | succ f => simpa [powF] using hp
      have HR := Lib.hid hr
      clear hp hr
      go_wp2_with fail
      go_ret
      exact ⟨by rw [← HR.out]; rfl, hB⟩
    · obtain ⟨f, rfl⟩ : ∃ g, f = g + 1 := by
        cases f with
        | zero => simp at hnf; omega
        | succ g => exact ⟨g, rfl⟩
      rw [powF, if_neg h0] at hp
      have hpos : (0 : Int) < (n : Int) := by omega
      have hf2 : n / 2 < 2 ^ f := by rw [Nat.pow_succ] at hnf; omega
      by_cases ho : n % 2 = 1
      · rw [if_pos ho] at hp
        have HP := Lib.hid hp
        have hb : (bits .and .i64 (n : Int) 1 == 1) = true := by rw [and1_i64 n (by omega), ho]; rfl
        clear hp ho hnf
        go_wp2_with fail
        refine (mul_calls o a hFr).mono ?_
        rintro e w1 ⟨rfl, hb1⟩
        generalize gm o a = o1 at *
        go_wp2_with fail
        refine (mul_calls a a (hFr.below hb1)).mono ?_
        rintro e w2 ⟨rfl, hb2⟩
        generalize gm a a = a1 at *
        go_wp2_with fail
        have hz := hB.size
        have hz1 := hb1.size
        exact ⟨⟨f, n / 2, a1, o1, hf2, by omega, HP.out, rfl, by go_num, rfl, (hB.trans (hb1.mono hz)).trans (hb2.mono (by omega))⟩, by simp [intOf]; omega⟩
      · rw [if_neg ho] at hp
        have HP := Lib.hid hp
        have hb : (bits .and .i64 (n : Int) 1 == 1) = false := by rw [and1_i64 n (by omega), show n % 2 = 0 by omega]; rfl
        clear hp ho hnf
        go_wp2_with fail
        refine (mul_calls a a hFr).mono ?_
        rintro e w2 ⟨rfl, hb2⟩
        generalize gm a a = a1 at *
        go_wp2_with fail
        have hz := hB.size
        exact ⟨⟨f, n / 2, a1, o, hf2, by omega, HP.out, rfl, by go_num, rfl, hB.trans (hb2.mono hz)⟩, by simp [intOf]; omega⟩

/-- The inverse, where there is one. -/
theorem inv_calls {w : World} (a : B8) (hF : FoldAt w) (ha : a ≠ 0#8) : Calls Tryd.prog 65 #[.int .u8 (a.toNat : Int)] w fun e w' => e = .returned (.tuple #[.int .u8 ((gi a).toNat : Int), .int .i64 0]) ∧ Below w.heap.size w w' := by
  have h0 : ((a.toNat : Int) == 0) = false := by
    have : a.toNat ≠ 0 := fun h => ha (BitVec.eq_of_toNat_eq (by simpa using h))
    simp; omega
  generalize hr : gi a = r at *
  have HR := Lib.hid hr
  clear hr
  go_enter Tryd.func65, Tryd.ntmps65
  go_wp2_with fail
  refine (raise_calls a hF).mono ?_
  rw [HR.out]
  rintro e w1 ⟨rfl, hb⟩
  go_wp2_with fail
  go_ret2
  exact ⟨rfl, hb⟩
theorem inv0_calls {w : World} : Calls Tryd.prog 65 #[.int .u8 0] w fun e w' => e = .returned (.tuple #[.int .u8 0, .int .i64 1]) ∧ w = w' := by
  go_enter Tryd.func65, Tryd.ntmps65
  go_wp2_with fail
  go_ret2
  exact ⟨rfl, rfl⟩

end Go.Proofs.YtibidlgikecelaaDoor

namespace Go.Proofs.YtibidlgikecelaaDoor
open Go.RowKit
set_option linter.unusedVariables false
set_option linter.unusedSimpArgs false

theorem b64_xor (p q : B16) : bits .xor .i64 (p.toNat : Int) (q.toNat : Int) = ((p ^^^ q).toNat : Int) := by
  have h : bits .xor .i64 (p.toNat : Int) (q.toNat : Int) = IntKind.i64.wrap ((BitVec.ofInt 64 (p.toNat : Int) ^^^ BitVec.ofInt 64 (q.toNat : Int)).toNat : Int) := rfl
  have hp : BitVec.ofInt 64 (p.toNat : Int) = p.setWidth 64 := by
    apply BitVec.eq_of_toNat_eq
    have := p.isLt
    simp [BitVec.toNat_ofInt]
  have hq : BitVec.ofInt 64 (q.toNat : Int) = q.setWidth 64 := by
    apply BitVec.eq_of_toNat_eq
    have := q.isLt
    simp [BitVec.toNat_ofInt]
  rw [h, hp, hq, ← BitVec.setWidth_xor]
  have := (p ^^^ q).isLt
  rw [BitVec.toNat_setWidth, Nat.mod_eq_of_lt (by omega), IntKind.wrap_i64]
  omega

theorem bit_at (b : B8) (k : Nat) : bits .and .u8 ((b.toNat : Int) / 2 ^ k) (1 : Int) = if b.getLsbD k then 1 else 0 := by
  rw [shr8, show (1 : Int) = ((1#8 : B8).toNat : Int) by rfl, b8_and, low_bit]
  simp
theorem shl_at (a : B8) {k : Nat} (hk : k < 8) : wrap64 ((a.toNat : Int) * 2 ^ k) = ((a.setWidth 16 <<< k).toNat : Int) := by
  have ha := a.isLt
  rcases (by omega : k = 0 ∨ k = 1 ∨ k = 2 ∨ k = 3 ∨ k = 4 ∨ k = 5 ∨ k = 6 ∨ k = 7) with rfl | rfl | rfl | rfl | rfl | rfl | rfl | rfl <;>
    (simp [wrap64, BitVec.toNat_shiftLeft, Nat.shiftLeft_eq]; omega)

theorem b64_bit (p : B16) (i : Nat) : bits .and .i64 ((p.toNat : Int) / 2 ^ i) (1 : Int) = if p.getLsbD i then 1 else 0 := by
  have e : (p.toNat : Int) / 2 ^ i = ((p >>> i).toNat : Int) := by simp [BitVec.toNat_ushiftRight, Nat.shiftRight_eq_div_pow]
  have h : bits .and .i64 ((p >>> i).toNat : Int) (1 : Int) = IntKind.i64.wrap ((BitVec.ofInt 64 ((p >>> i).toNat : Int) &&& BitVec.ofInt 64 1).toNat : Int) := rfl
  have hp : BitVec.ofInt 64 ((p >>> i).toNat : Int) = (p >>> i).setWidth 64 := by
    apply BitVec.eq_of_toNat_eq
    have := (p >>> i).isLt
    simp only [BitVec.toNat_ofInt, BitVec.toNat_setWidth]
    omega
  have h1 : ((p >>> i).setWidth 64 &&& BitVec.ofInt 64 1).toNat = (p >>> i).toNat % 2 := by
    have := (p >>> i).isLt
    rw [BitVec.toNat_and, BitVec.toNat_setWidth, Nat.mod_eq_of_lt (by omega), show (BitVec.ofInt 64 1).toNat = 1 by rfl, Nat.and_one_is_mod]
  have h2 : (p >>> i).toNat % 2 = if p.getLsbD i then 1 else 0 := by
    rw [BitVec.toNat_ushiftRight, BitVec.getLsbD, Nat.testBit, Nat.one_and_eq_mod_two]
    have := Nat.mod_two_eq_zero_or_one (p.toNat >>> i)
    rcases this with h | h <;> simp [h]
  rw [e, h, hp, h1, h2, IntKind.wrap_i64]
  split <;> rfl
theorem odd64 {p : B16} {i : Nat} {d : Int} (hd : d = 2 ^ i) {x : Bool} (h : (bits .and .i64 ((p.toNat : Int) / d) (1 : Int) == 1) = x) : p.getLsbD i = x := by
  rw [hd, b64_bit] at h
  cases hb : p.getLsbD i <;> rw [hb] at h <;> simpa using h
theorem red_odd {p : B16} {i : Nat} (h : p.getLsbD i = true) {c : Int} (hc : c = ((0x11d#16 <<< (i - 8)).toNat : Int)) : bits .xor .i64 (p.toNat : Int) c = ((red1 i p).toNat : Int) := by
  rw [hc, b64_xor, red1, h]; rfl
theorem red_even {p : B16} {i : Nat} (h : p.getLsbD i = false) : red1 i p = p := by
  rw [red1, h]; simp [sel]

set_option maxHeartbeats 400000 in
set_option maxRecDepth 100000 in
theorem rmul_calls {w : World} (a b : B8) : Calls Tryd.prog 77 #[.int .u8 (a.toNat : Int), .int .u8 (b.toNat : Int)] w fun e w' => e = .returned (.int .u8 ((gm a b).toNat : Int)) ∧ w = w' := by
  go_enter Tryd.func77, Tryd.ntmps77
  go_wp2_with fail
  go_loop [5, 8] (fun s5 s8 => ∃ k : Nat, k ≤ 8 ∧ s8 = .int .i64 ((k : Nat) : Int) ∧ s5 = .int .i64 ((cl16 a b k).toNat : Int)) (fun _ s8 => 8 - (intOf s8).toNat)
  case atStart => exact ⟨0, by omega, rfl, rfl⟩
  case round =>
    obtain ⟨k, hk, rfl, rfl⟩ := hrel
    by_cases hlt : k < 8
    · have hki : (k : Int) < 8 := by omega
      have hba := bit_at b k
      have hsa := shl_at a hlt
      cases hbit : b.getLsbD k with
      | true =>
        have hb : (bits .and .u8 ((b.toNat : Int) / 2 ^ k) 1 == 1) = true := by rw [hba, hbit]; rfl
        have HB := Lib.hid hbit
        have HS := Lib.hid hsa
        clear hba hsa hbit
        go_wp2_with fail
        refine ⟨⟨k + 1, by omega, by go_num, ?_⟩, by simp [intOf]; omega⟩
        rw [HS.out, b64_xor, cl16, HB.out]
        rfl
      | false =>
        have hb : (bits .and .u8 ((b.toNat : Int) / 2 ^ k) 1 == 1) = false := by rw [hba, hbit]; rfl
        have HB := Lib.hid hbit
        clear hba hsa hbit
        go_wp2_with fail
        refine ⟨⟨k + 1, by omega, by go_num, ?_⟩, by simp [intOf]; omega⟩
        rw [cl16, HB.out]
        simp [sel]
    · obtain rfl : k = 8 := by omega
      go_wp2_with fail
      have hfin := mulR_eq a b
      unfold mulR at hfin
      generalize cl16 a b 8 = p0 at *
      have HF := Lib.hid hfin
      clear hfin
      go_loop [5, 7] (fun s5 s7 => ∃ j : Nat, j ≤ 7 ∧ s7 = .int .i64 (14 - ((j : Nat) : Int)) ∧ s5 = .int .i64 ((redK j p0).toNat : Int)) (fun _ s7 => (intOf s7).toNat)
      case atStart => exact ⟨0, by omega, rfl, rfl⟩
      case round =>
        obtain ⟨j, hj, rfl, rfl⟩ := hrel
        by_cases hlt : j < 7
        · rcases (by omega : j = 0 ∨ j = 1 ∨ j = 2 ∨ j = 3 ∨ j = 4 ∨ j = 5 ∨ j = 6) with rfl | rfl | rfl | rfl | rfl | rfl | rfl
          · go_wp2_with fail
            · rename_i hq
              refine ⟨⟨1, by omega, by simp, ?_⟩, by simp [intOf]⟩
              rw [red_odd (i := 14) (odd64 (by decide) hq) (by decide)]
              rfl
            · rename_i hq
              refine ⟨⟨1, by omega, by simp, ?_⟩, by simp [intOf]⟩
              have hr := red_even (i := 14) (odd64 (by decide) hq)
              rw [show redK 1 p0 = red1 14 (redK 0 p0) by rfl, hr]
          · go_wp2_with fail
            · rename_i hq
              refine ⟨⟨2, by omega, by simp, ?_⟩, by simp [intOf]⟩
              rw [red_odd (i := 13) (odd64 (by decide) hq) (by decide)]
              rfl
            · rename_i hq
              refine ⟨⟨2, by omega, by simp, ?_⟩, by simp [intOf]⟩
              have hr := red_even (i := 13) (odd64 (by decide) hq)
              rw [show redK 2 p0 = red1 13 (redK 1 p0) by rfl, hr]
          · go_wp2_with fail
            · rename_i hq
              refine ⟨⟨3, by omega, by simp, ?_⟩, by simp [intOf]⟩
              rw [red_odd (i := 12) (odd64 (by decide) hq) (by decide)]
              rfl
            · rename_i hq
              refine ⟨⟨3, by omega, by simp, ?_⟩, by simp [intOf]⟩
              have hr := red_even (i := 12) (odd64 (by decide) hq)
              rw [show redK 3 p0 = red1 12 (redK 2 p0) by rfl, hr]
          · go_wp2_with fail
            · rename_i hq
              refine ⟨⟨4, by omega, by simp, ?_⟩, by simp [intOf]⟩
              rw [red_odd (i := 11) (odd64 (by decide) hq) (by decide)]
              rfl
            · rename_i hq
              refine ⟨⟨4, by omega, by simp, ?_⟩, by simp [intOf]⟩
              have hr := red_even (i := 11) (odd64 (by decide) hq)
              rw [show redK 4 p0 = red1 11 (redK 3 p0) by rfl, hr]
          · go_wp2_with fail
            · rename_i hq
              refine ⟨⟨5, by omega, by simp, ?_⟩, by simp [intOf]⟩
              rw [red_odd (i := 10) (odd64 (by decide) hq) (by decide)]
              rfl
            · rename_i hq
              refine ⟨⟨5, by omega, by simp, ?_⟩, by simp [intOf]⟩
              have hr := red_even (i := 10) (odd64 (by decide) hq)
              rw [show redK 5 p0 = red1 10 (redK 4 p0) by rfl, hr]
          · go_wp2_with fail
            · rename_i hq
              refine ⟨⟨6, by omega, by simp, ?_⟩, by simp [intOf]⟩
              rw [red_odd (i := 9) (odd64 (by decide) hq) (by decide)]
              rfl
            · rename_i hq
              refine ⟨⟨6, by omega, by simp, ?_⟩, by simp [intOf]⟩
              have hr := red_even (i := 9) (odd64 (by decide) hq)
              rw [show redK 6 p0 = red1 9 (redK 5 p0) by rfl, hr]
          · go_wp2_with fail
            · rename_i hq
              refine ⟨⟨7, by omega, by simp, ?_⟩, by simp [intOf]⟩
              rw [red_odd (i := 8) (odd64 (by decide) hq) (by decide)]
              rfl
            · rename_i hq
              refine ⟨⟨7, by omega, by simp, ?_⟩, by simp [intOf]⟩
              have hr := red_even (i := 8) (odd64 (by decide) hq)
              rw [show redK 7 p0 = red1 8 (redK 6 p0) by rfl, hr]
        · obtain rfl : j = 7 := by omega
          go_wp2_with fail
          go_ret
          refine ⟨?_, rfl⟩
          rw [← HF.out]
          simp [BitVec.toNat_setWidth]

end Go.Proofs.YtibidlgikecelaaDoor

namespace Go.Proofs.YtibidlgikecelaaDoor
open Go.RowKit
set_option linter.unusedVariables false
set_option linter.unusedSimpArgs false

set_option maxHeartbeats 400000 in
set_option maxRecDepth 100000 in
theorem rdiv_calls {w : World} (b : B8) (hb : b ≠ 0#8) : Calls Tryd.prog 95 #[.int .u8 1, .int .u8 (b.toNat : Int)] w fun e w' => e = .returned (.tuple #[.int .u8 ((gi b).toNat : Int), .int .i64 0]) ∧ w = w' := by
  have h0 : ((b.toNat : Int) == 0) = false := by
    have : b.toNat ≠ 0 := fun h => hb (BitVec.eq_of_toNat_eq (by simpa using h))
    simp; omega
  have hu : ∀ k : Nat, k < 256 → gm (BitVec.ofNat 8 k) b = 1#8 → k = (gi b).toNat := by
    intro k hk h
    have := gi_unique (a := b) (b := BitVec.ofNat 8 k) (by rw [gm_comm]; exact h)
    rw [← this]; simp; omega
  have hg := gi_gm b hb
  have hlt := (gi b).isLt
  generalize gi b = r at *
  have HU := Lib.hid hu
  have HG := Lib.hid hg
  clear hu hg
  go_enter Tryd.func95, Tryd.ntmps95
  go_wp2_with fail
  go_loop [9] (fun s => ∃ k : Nat, k ≤ r.toNat ∧ s = .int .i64 ((k : Nat) : Int)) (fun s => 256 - (intOf s).toNat)
  case atStart => exact ⟨0, by omega, rfl⟩
  case round =>
    obtain ⟨k, hk, rfl⟩ := hrel
    have hki : (k : Int) < 256 := by omega
    have hk8 : ((BitVec.ofNat 8 k).toNat : Int) = (k : Int) := by simp; omega
    have hc := rmul_calls (w := w) (BitVec.ofNat 8 k) b
    rw [hk8] at hc
    by_cases hg : gm (BitVec.ofNat 8 k) b = 1#8
    · have hkr := HU.out k (by omega) hg
      rw [hg] at hc
      have HC := Lib.hid hc
      have HK := Lib.hid hkr
      clear hc hg hkr hk8
      go_wp2_with fail
      refine HC.out.mono ?_
      rintro e w' ⟨rfl, rfl⟩
      go_wp2_with fail
      go_ret2
      exact ⟨by rw [← HK.out]; rfl, rfl⟩
    · have hq : (((gm (BitVec.ofNat 8 k) b).toNat : Int) == 1) = false := by
        have : (gm (BitVec.ofNat 8 k) b).toNat ≠ 1 := fun h => hg (BitVec.eq_of_toNat_eq (by simpa using h))
        simp; omega
      have hkr : k < r.toNat := by
        rcases Nat.lt_or_ge k r.toNat with h | h
        · exact h
        · have : BitVec.ofNat 8 k = r := BitVec.eq_of_toNat_eq (by simp; omega)
          rw [this] at hg
          exact absurd HG.out hg
      generalize gm (BitVec.ofNat 8 k) b = g at *
      have HC := Lib.hid hc
      clear hc hg hk8
      go_wp2_with fail
      refine HC.out.mono ?_
      rintro e w' ⟨rfl, rfl⟩
      go_wp2_with fail
      exact ⟨⟨k + 1, by omega, by go_num⟩, by simp [intOf]; omega⟩

theorem rdiv0_calls {w : World} : Calls Tryd.prog 95 #[.int .u8 1, .int .u8 0] w fun e w' => e = .returned (.tuple #[.int .u8 0, .int .i64 1]) ∧ w = w' := by
  go_enter Tryd.func95, Tryd.ntmps95
  go_wp2_with fail
  go_ret2
  exact ⟨rfl, rfl⟩
theorem rinv_calls {w : World} (a : B8) (ha : a ≠ 0#8) : Calls Tryd.prog 76 #[.int .u8 (a.toNat : Int)] w fun e w' => e = .returned (.tuple #[.int .u8 ((gi a).toNat : Int), .int .i64 0]) ∧ w = w' := by
  have HC := Lib.hid (rdiv_calls (w := w) a ha)
  generalize gi a = r at *
  go_enter Tryd.func76, Tryd.ntmps76
  go_wp2_with fail
  refine HC.out.mono ?_
  rintro e w' ⟨rfl, rfl⟩
  go_wp2_with fail
  go_ret2
  exact ⟨rfl, rfl⟩
theorem rinv0_calls {w : World} : Calls Tryd.prog 76 #[.int .u8 0] w fun e w' => e = .returned (.tuple #[.int .u8 0, .int .i64 1]) ∧ w = w' := by
  go_enter Tryd.func76, Tryd.ntmps76
  go_wp2_with fail
  refine rdiv0_calls.mono ?_
  rintro e w' ⟨rfl, rfl⟩
  go_wp2_with fail
  go_ret2
  exact ⟨rfl, rfl⟩

end Go.Proofs.YtibidlgikecelaaDoor
