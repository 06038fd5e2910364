/- Contract: amphoraref05.Reader: Num. -/
import Derived.Test.YtfcacplecapgfaaE9
namespace Go.Proofs.Ytfcacplecapgfaa
open Go.RowKit
set_option linter.unusedVariables false
set_option linter.unusedSimpArgs false

/-- The value of bytes, the highest first. -/
def fv (l : List B8) : Nat := l.foldl (fun n x => n * 256 + x.toNat) 0
theorem fv_rev (l : List B8) : valL l.reverse = fv l := valL_rev l
theorem fv_snoc (l : List B8) (x : B8) : fv (l ++ [x]) = fv l * 256 + x.toNat := by simp [fv]
theorem fv_lt (l : List B8) : fv l < 256 ^ l.length := by
  rw [← fv_rev]
  have hb : ∀ l : List B8, valL l < 256 ^ l.length := by
    intro l
    induction l with
    | nil => simp [valL]
    | cons x l ih =>
      have := x.isLt
      simp only [valL, List.length_cons, Nat.pow_succ]
      omega
  have := hb l.reverse
  rwa [List.length_reverse] at this
theorem fv_cons (x : B8) (l : List B8) : fv (x :: l) = x.toNat * 256 ^ l.length + fv l := by
  rw [← fv_rev, List.reverse_cons, ← fv_rev]
  have hv : ∀ (m : List B8) (y : B8), valL (m ++ [y]) = valL m + 256 ^ m.length * y.toNat := by
    intro m y
    induction m with
    | nil => simp [valL]
    | cons z m ihm => simp only [List.cons_append, valL, ihm, List.length_cons, Nat.pow_succ]; rw [Nat.mul_add, ← Nat.mul_assoc, Nat.mul_comm 256 (256 ^ m.length), Nat.add_assoc]
  rw [hv, List.length_reverse, Nat.mul_comm x.toNat, Nat.add_comm]
theorem fv_take {l : List B8} {t : Nat} (h : t < l.length) : fv (l.take (t + 1)) = fv (l.take t) * 256 + l[t].toNat := by
  rw [List.take_succ_eq_append_getElem h, fv_snoc]
theorem fv_take_le (l : List B8) : ∀ (k t : Nat), t + k = l.length → fv (l.take t) ≤ fv l
  | 0, t, h => by rw [List.take_of_length_le (by omega)]; exact Nat.le_refl _
  | k + 1, t, h => by
    have h1 := fv_take_le l k (t + 1) (by omega)
    rw [fv_take (by omega)] at h1
    omega
/-- Bytes of which the first tells that the number is right at the front. -/
def frontB (b : List B8) : Bool := decide (b[0]? = some 0#8) || (decide (b.length = 8) && decide (16 < (b.getD 0 0#8).toNat))
theorem front_lt {b : List B8} (h : frontB b = false) (h8 : b.length ≤ 8) : fv b < 9223372036854775808 := by
  cases b with
  | nil => decide
  | cons x m =>
    by_cases h7 : (x :: m).length ≤ 7
    · have h1 := fv_lt (x :: m)
      have h2 : 256 ^ (x :: m).length ≤ 256 ^ 7 := Nat.pow_le_pow_right (by decide) h7
      have h3 : (256 : Nat) ^ 7 = 72057594037927936 := by decide
      omega
    · have hm : m.length = 7 := by simp at h7 h8; omega
      unfold frontB at h
      simp only [List.getElem?_cons_zero, List.length_cons, hm, List.getD_cons_zero, decide_true, Bool.true_and, Bool.or_eq_false_iff, decide_eq_false_iff_not] at h
      rw [fv_cons, hm]
      have h1 := fv_lt m
      rw [hm] at h1
      have h3 : (256 : Nat) ^ 7 = 72057594037927936 := by decide
      rw [h3] at h1 ⊢
      omega
/-- What a number's reading gives. -/
theorem numR_front {w : B8} {l : List B8} (h8 : w.toNat ≤ 8) (hl : w.toNat ≤ l.length) (h : frontB (l.take w.toNat) = true) : numR 1152921504606846976 (w :: l) = none := by
  simp only [numR]
  rw [if_neg (by omega)]
  by_cases h0 : (l.take w.toNat)[0]? = some 0#8
  · rw [if_pos h0]
  · rw [if_neg h0, if_pos]
    rw [fv_rev]
    unfold frontB at h
    rw [decide_eq_false h0, Bool.false_or, Bool.and_eq_true, decide_eq_true_eq, decide_eq_true_eq] at h
    obtain ⟨h1, h2⟩ := h
    cases hb : l.take w.toNat with
    | nil => rw [hb] at h1; cases h1
    | cons x m =>
      rw [hb] at h1 h2
      rw [fv_cons]
      have hm : m.length = 7 := by simp at h1; omega
      simp only [List.getD_cons_zero] at h2
      rw [hm]
      have h3 : (256 : Nat) ^ 7 = 72057594037927936 := by decide
      rw [h3]
      omega
theorem numR_val {w : B8} {l : List B8} (h8 : w.toNat ≤ 8) (hl : w.toNat ≤ l.length) (h : frontB (l.take w.toNat) = false) :
    numR 1152921504606846976 (w :: l) = if 1152921504606846976 < fv (l.take w.toNat) then none else some (fv (l.take w.toNat), l.drop w.toNat) := by
  simp only [numR]
  rw [if_neg (by omega)]
  unfold frontB at h
  rw [Bool.or_eq_false_iff, decide_eq_false_iff_not] at h
  rw [if_neg h.1, fv_rev]
theorem numR_long {w : B8} {l : List B8} (h : 8 < w.toNat ∨ l.length < w.toNat) : numR 1152921504606846976 (w :: l) = none := by
  simp only [numR]
  rw [if_pos h]

/-- What a reader's Num leaves. -/
def RNum (w : World) (pr : Nat) (o : Option (Nat × List B8)) (e : Ending) (w' : World) : Prop :=
  w.grownBy w' (some pr) ∧ ((∃ n r A c, o = some (n, r) ∧ e = .returned (.int .i64 (n : Int)) ∧ RdAt w' pr A c false r) ∨ (o = none ∧ ∃ (m : Nat) (A : Option Addr) (c : Nat) (l' : List B8), e = .returned (.int .i64 (m : Int)) ∧ RdAt w' pr A c true l'))

set_option maxHeartbeats 1000000 in
set_option maxRecDepth 100000 in
theorem rnum_isbad {w : World} {pr c : Nat} {A : Option Addr} {l : List B8} (h : RdAt w pr A c true l) :
    Calls Try.prog 38 #[.pointer (some ⟨pr, 0, none⟩)] w (RNum w pr none) := by
  have HT := Lib.hid (rtake_bad 1 h (.inl rfl))
  go_enter Try.func38, Try.ntmps38
  go_wp2_with fail
  refine HT.out.mono ?_
  rintro e w2 ⟨rfl, hR, hg⟩
  have h1 := cell_of_row _ _ 1 _ _ (0, 0) hR.hd
  have hf := frozen_of_row _ _ 1 _ _ hR.hd
  simp only [List.getElem?_toArray, List.getElem?_cons_succ, List.getElem?_cons_zero] at h1
  have hset := heap_setCell_same w2 pr 1 _ _ (.bool true) hR.hd
  have hg2 := grown_set w2 pr 1 (.bool true)
  have hR2 : RdAt (w2.setCell ⟨pr, 1, none⟩ (.bool true)) pr A c true l := ⟨hset, hR.at'.grown' hg2 (fun b off he hh => by injection hh with hh; have := hR.far b off he; omega), hR.far, hR.len, hR.nil, hR.spot⟩
  clear hset
  go_wp2_with fail
  go_ret
  exact ⟨grown_trans hg hg2, .inr ⟨rfl, 0, A, c, l, rfl, hR2⟩⟩

theorem RdAt.byte {w : World} {pr c : Nat} {A : Option Addr} {bad : Bool} {x : B8} {l : List B8} (h : RdAt w pr A c bad (x :: l)) : ∃ b off, A = some ⟨b, off, none⟩ ∧ b < pr ∧ w.cell? ⟨b, off, none⟩ = some (.int .u8 (x.toNat : Int)) := by
  obtain ⟨b, off, he, hc⟩ := h.at' 0 (bv x) rfl
  exact ⟨b, off, he, h.far b off he, hc⟩
theorem RdAt.setBad {w : World} {pr c : Nat} {A : Option Addr} {bad : Bool} {l : List B8} (h : RdAt w pr A c bad l) : RdAt (w.setCell ⟨pr, 1, none⟩ (.bool true)) pr A c true l ∧ w.grownBy (w.setCell ⟨pr, 1, none⟩ (.bool true)) (some pr) := by
  have hset := heap_setCell_same w pr 1 _ _ (.bool true) h.hd
  have hg2 := grown_set w pr 1 (.bool true)
  exact ⟨⟨hset, h.at'.grown' hg2 (fun b off he hh => by injection hh with hh; have := h.far b off he; omega), h.far, h.len, h.nil, h.spot⟩, hg2⟩

set_option maxHeartbeats 2000000 in
set_option maxRecDepth 100000 in
theorem rnum_calls {w : World} {pr c : Nat} {A : Option Addr} {l : List B8} (h : RdAt w pr A c false l) :
    Calls Try.prog 38 #[.pointer (some ⟨pr, 0, none⟩)] w (RNum w pr (numR 1152921504606846976 l)) := by
  cases l with
  | nil =>
    have HT := Lib.hid (rtake_bad 1 h (.inr (.inr (by decide))))
    have hno : numR 1152921504606846976 ([] : List B8) = none := rfl
    rw [hno]
    clear hno
    go_enter Try.func38, Try.ntmps38
    go_wp2_with fail
    refine HT.out.mono ?_
    rintro e w2 ⟨rfl, hR, hg⟩
    have h1 := cell_of_row _ _ 1 _ _ (0, 0) hR.hd
    have hf := frozen_of_row _ _ 1 _ _ hR.hd
    simp only [List.getElem?_toArray, List.getElem?_cons_succ, List.getElem?_cons_zero] at h1
    have HB := Lib.hid hR.setBad
    clear h HT
    go_wp2_with fail
    go_ret
    exact ⟨grown_trans hg HB.out.2, .inr ⟨rfl, 0, _, _, _, rfl, HB.out.1⟩⟩
  | cons x l1 =>
    obtain ⟨b0, off, rfl, hbp, hcx⟩ := h.byte
    have HT := Lib.hid (rtake_good 1 h (by simp))
    rw [show (x :: l1).drop 1 = l1 from rfl] at HT
    have hx256 := x.isLt
    generalize ho : numR 1152921504606846976 (x :: l1) = o
    have HO := Lib.hid ho
    clear ho
    go_enter Try.func38, Try.ntmps38
    go_wp2_with fail
    refine HT.out.mono ?_
    rintro e w2 ⟨rfl, hR, hg⟩
    have hc2 := hg.cell hcx (by simp; omega)
    have h1 := cell_of_row _ _ 1 _ _ (0, 0) hR.hd
    have hf := frozen_of_row _ _ 1 _ _ hR.hd
    simp only [List.getElem?_toArray, List.getElem?_cons_succ, List.getElem?_cons_zero] at h1
    clear h HT hcx
    by_cases h8 : 8 < x.toNat
    · have HN := Lib.hid (numR_long (l := l1) (.inl h8))
      have hxi : (8 : Int) < (x.toNat : Int) := by omega
      have HB := Lib.hid hR.setBad
      clear hR
      go_wp2_with fail
      go_ret
      exact ⟨grown_trans hg HB.out.2, .inr ⟨by rw [← HO.out]; exact HN.out, 0, _, _, _, rfl, HB.out.1⟩⟩
    · have hxi : ¬ ((8 : Int) < (x.toNat : Int)) := by omega
      by_cases hl : l1.length < x.toNat
      · have HN := Lib.hid (numR_long (l := l1) (.inr hl))
        have HT2 := Lib.hid (rtake_bad (x.toNat : Int) hR (.inr (.inr (by omega))))
        clear hR
        go_wp2_with fail
        refine HT2.out.mono ?_
        rintro e w3 ⟨rfl, hR3, hg3⟩
        clear h1 hf hc2
        go_wp2_with fail
        go_loop [5, 31] (fun s5 s => s = .int .i64 0 ∧ s5 = .int .i64 0) (fun _ _ => 0)
        case atStart => exact ⟨rfl, rfl⟩
        case round =>
          obtain ⟨rfl, rfl⟩ := hrel
          go_wp2_with fail
          go_ret
          exact ⟨grown_trans hg hg3, .inr ⟨by rw [← HO.out]; exact HN.out, 0, _, _, _, rfl, hR3⟩⟩
      · have HT2 := Lib.hid (rtake_good x.toNat hR (by omega))
        have hat2 := hR.at'
        have hfar2 := hR.far
        have hlen : (l1.take x.toNat).length = x.toNat := by simp; omega
        have hatb := hat2.take x.toNat
        rw [bys_take] at hatb
        have h88 : x.toNat ≤ 8 := by omega
        have HFT := fun h => Lib.hid (numR_front (w := x) (l := l1) h88 (by omega) h)
        have HFF := fun h => Lib.hid (numR_val (w := x) (l := l1) h88 (by omega) h)
        rw [HO.out] at HFT HFF
        generalize l1.take x.toNat = b at *
        generalize l1.drop x.toNat = r at *
        generalize x.toNat = n at *
        subst hlen
        clear hR hat2 HO
        go_wp2_with fail
        refine HT2.out.mono ?_
        rintro e w3 ⟨rfl, hR3, hg3⟩
        have hatb3 := hatb.grown' hg3 (fun b' off' he hh => by injection hh with hh; have := hfar2 b' off' he; omega)
        have hfar3 := hfar2
        generalize cutA (some ⟨b0, off, none⟩) 1 c = A2 at *
        clear h1 hf hc2 hatb hfar2 HT2
        have hG3 := grown_trans hg hg3
        have HB3 := Lib.hid hR3.setBad
        have h13 := cell_of_row _ _ 1 _ _ (0, 0) hR3.hd
        have hf3 := frozen_of_row _ _ 1 _ _ hR3.hd
        simp only [List.getElem?_toArray, List.getElem?_cons_succ, List.getElem?_cons_zero] at h13
        clear hg hg3
        cases hfr : frontB b with
        | true =>
          have HN := HFT hfr
          have HFR := Lib.hid hfr
          clear HFT HFF hfr
          go_wp2_with fail
          go_loop [31] (fun s => s = .int .i64 0) (fun _ => 0)
          case atStart => rfl
          case round =>
            subst hrel
            have hb0 : 0 < b.length := by
              cases b with
              | nil => have := HFR.out; cases this
              | cons y m => simp
            have hbi : (0 : Int) < (b.length : Int) := by omega
            obtain ⟨b', off', rfl, hcb⟩ := hatb3.byte (k := 0) hb0
            have hfb := HFR.out
            have hg0 : b.getD 0 0#8 = b[0] := getD_at hb0
            have hq0 : b[0]? = some b[0] := List.getElem?_eq_getElem hb0
            unfold frontB at hfb
            rw [hg0, hq0] at hfb
            generalize b[0] = y at *
            rw [Nat.add_zero] at hcb
            clear hg0 hq0
            by_cases hy0 : y = 0#8
            · have hyi : ((y.toNat : Int) == 0) = true := by rw [hy0]; rfl
              clear hfb
              go_wp2_with fail
              go_ret
              exact ⟨grown_trans hG3 HB3.out.2, .inr ⟨HN.out, 0, _, _, _, rfl, HB3.out.1⟩⟩
            · have hyn : y.toNat ≠ 0 := fun h => hy0 (BitVec.eq_of_toNat_eq (by simpa using h))
              have hyi : ((y.toNat : Int) == 0) = false := beq_eq_false_iff_ne.2 (by omega)
              have hd0 : decide (some y = some 0#8) = false := decide_eq_false (fun h => hy0 (by injection h))
              rw [hd0, Bool.false_or, Bool.and_eq_true, decide_eq_true_eq, decide_eq_true_eq] at hfb
              obtain ⟨hb8, hy16⟩ := hfb
              have hbl : ((b.length : Int) == 8) = true := by rw [hb8]; rfl
              have hyg : (16 : Int) < (y.toNat : Int) := by omega
              clear hy0 hyn hd0
              go_wp2_with fail
              go_ret
              exact ⟨grown_trans hG3 HB3.out.2, .inr ⟨HN.out, 0, _, _, _, rfl, HB3.out.1⟩⟩
        | false =>
          have HV := HFF hfr
          have HFR := Lib.hid hfr
          have HLT := Lib.hid (front_lt hfr h88)
          clear HFT HFF hfr
          go_wp2_with fail
          go_loop [5, 31] (fun s5 s31 => ∃ t : Nat, t ≤ b.length ∧ s31 = .int .i64 ((t : Nat) : Int) ∧ s5 = .int .i64 ((fv (b.take t) : Nat) : Int)) (fun _ s31 => b.length - (intOf s31).toNat)
          case atStart => exact ⟨0, by omega, rfl, rfl⟩
          case round =>
            obtain ⟨t, ht, rfl, rfl⟩ := hrel
            by_cases htb : t < b.length
            · have hti : (t : Int) < (b.length : Int) := by omega
              obtain ⟨b', off', rfl, hcb⟩ := hatb3.byte (k := t) htb
              have hstep := fv_take htb
              have hmono := fv_take_le b (b.length - (t + 1)) (t + 1) (by omega)
              have hlt := HLT.out
              have hfb := HFR.out
              have hHead : t = 0 → b[t].toNat ≠ 0 ∧ (b.length = 8 → ¬ 16 < b[t].toNat) := by
                rintro rfl
                unfold frontB at hfb
                rw [getD_at htb, List.getElem?_eq_getElem htb, Bool.or_eq_false_iff, decide_eq_false_iff_not, Bool.and_eq_false_iff, decide_eq_false_iff_not, decide_eq_false_iff_not] at hfb
                refine ⟨fun h => hfb.1 (by congr 1; exact BitVec.eq_of_toNat_eq (by simpa using h)), fun h h2 => ?_⟩
                rcases hfb.2 with h3 | h3
                · exact h3 h
                · exact h3 h2
              have hy8 := b[t].isLt
              generalize b[t] = y at *
              generalize hf0 : fv (b.take t) = f at *
              have HST := Lib.hid hstep
              have hfy : f * 256 + y.toNat < 9223372036854775808 := by omega
              clear hstep hmono hfb hf0
              by_cases ht0 : t = 0
              · obtain ⟨hh1, hh2⟩ := hHead ht0
                subst ht0
                rw [Nat.add_zero] at hcb
                have hyi : ((y.toNat : Int) == 0) = false := beq_eq_false_iff_ne.2 (by omega)
                by_cases hb8 : b.length = 8
                · have hbl : ((b.length : Int) == 8) = true := by rw [hb8]; rfl
                  have hyg : ¬ ((16 : Int) < (y.toNat : Int)) := by have := hh2 hb8; omega
                  clear hh1 hh2 hHead
                  go_wp2_with fail
                  exact ⟨⟨1, by omega, rfl, by rw [HST.out]; exact congrArg (Value.int .i64) (by omega)⟩, by simp [intOf]; omega⟩
                · have hbl : ((b.length : Int) == 8) = false := beq_eq_false_iff_ne.2 (by omega)
                  clear hh1 hh2 hHead
                  go_wp2_with fail
                  exact ⟨⟨1, by omega, rfl, by rw [HST.out]; exact congrArg (Value.int .i64) (by omega)⟩, by simp [intOf]; omega⟩
              · have hti0 : ((t : Int) == 0) = false := beq_eq_false_iff_ne.2 (by omega)
                clear hHead
                go_wp2_with fail
                exact ⟨⟨t + 1, by omega, by go_num, by rw [HST.out]; exact congrArg (Value.int .i64) (by omega)⟩, by simp [intOf]; omega⟩
            · obtain rfl : b.length = t := by omega
              rw [List.take_length]
              generalize fv b = f at *
              by_cases hbig : 1152921504606846976 < f
              · rw [if_pos hbig] at HV
                have hbi : (1152921504606846976 : Int) < (f : Int) := by omega
                go_wp2_with fail
                go_ret
                exact ⟨grown_trans hG3 HB3.out.2, .inr ⟨HV.out, f, _, _, _, rfl, HB3.out.1⟩⟩
              · rw [if_neg hbig] at HV
                have hbi : ¬ ((1152921504606846976 : Int) < (f : Int)) := by omega
                go_wp2_with fail
                go_ret
                exact ⟨hG3, .inl ⟨f, r, _, _, HV.out, rfl, hR3⟩⟩

end Go.Proofs.Ytfcacplecapgfaa
