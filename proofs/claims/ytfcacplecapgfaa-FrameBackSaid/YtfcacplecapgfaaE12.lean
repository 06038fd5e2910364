/- Contracts: frame's cursor: take; reader: num. -/
import Derived.Test.YtfcacplecapgfaaE10
namespace Go.Proofs.Ytfcacplecapgfaa
open Go.RowKit
set_option linter.unusedVariables false
set_option linter.unusedSimpArgs false

/-- What a reader gives up with. -/
def wrongCh : List PanicEntry := [{ v := .iface 90 (.agg #[]), recovered := false }]
/-- A reader that has bytes left. -/
structure FdAt (w : World) (pr : Nat) (A : Option Addr) (c : Nat) (l : List B8) : Prop where
  hd : w.heap[pr]? = some (.cells #[.slice A l.length c] 88 (0, 0))
  at' : At w A (bys l)
  far : ∀ b off, A = some ⟨b, off, none⟩ → b < pr
  len : l.length ≤ c
  nil : A = none → c = 0
  spot : ∀ a, A = some a → a.spot = none

set_option maxHeartbeats 400000 in
set_option maxRecDepth 100000 in
theorem ftake_bad {w : World} {pr c : Nat} {A : Option Addr} {l : List B8} (n : Int) (h : FdAt w pr A c l) (hb : (l.length : Int) < n) :
    Calls Try.prog 53 #[.pointer (some ⟨pr, 0, none⟩), .int .i64 n] w fun e w' => e = .panicked wrongCh ∧ w = w' := by
  have h0 := cell_of_row _ _ 0 _ _ (0, 0) h.hd
  simp only [List.getElem?_toArray, List.getElem?_cons_succ, List.getElem?_cons_zero] at h0
  clear h
  go_enter Try.func53, Try.ntmps53
  go_wp2_with fail
  simp [bodyPost, wrongCh]


set_option maxHeartbeats 400000 in
set_option maxRecDepth 100000 in
theorem ftake_good {w : World} {pr c : Nat} {A : Option Addr} {l : List B8} (n : Nat) (h : FdAt w pr A c l) (hn : n ≤ l.length) :
    Calls Try.prog 53 #[.pointer (some ⟨pr, 0, none⟩), .int .i64 (n : Int)] w fun e w' => e = .returned (.slice A n n) ∧ FdAt w' pr (cutA A n c) (c - n) (l.drop n) ∧ w.grownBy w' (some pr) := by
  have h0 := cell_of_row _ _ 0 _ _ (0, 0) h.hd
  have hf := frozen_of_row _ _ 0 _ _ h.hd
  simp only [List.getElem?_toArray, List.getElem?_cons_succ, List.getElem?_cons_zero] at h0
  have hlc := h.len
  have hset := heap_setCell_same w pr 0 _ _ (.slice (cutA A n c) (l.length - n) (c - n)) h.hd
  have hg := grown_set w pr 0 (.slice (cutA A n c) (l.length - n) (c - n))
  have hR : FdAt (w.setCell ⟨pr, 0, none⟩ (.slice (cutA A n c) (l.length - n) (c - n))) pr (cutA A n c) (c - n) (l.drop n) := by
    refine ⟨by rw [List.length_drop]; exact hset, ?_, cutA_far h.far h.spot, by rw [List.length_drop]; omega, ?_, ?_⟩
    · have := (h.at'.drop n c (by simpa using hlc)).grown' hg (fun b off he hh => by injection hh with hh; have := cutA_far h.far h.spot b off he; omega)
      rwa [bys_drop] at this
    · intro he
      unfold cutA at he
      split at he
      · have := h.nil he; omega
      · cases A with
        | none => have := h.nil rfl; omega
        | some a => cases he
    · intro a he
      unfold cutA at he
      split at he
      · exact h.spot a he
      · cases A with
        | none => cases he
        | some b =>
          obtain ⟨b', off', sp⟩ := b
          have := h.spot _ rfl
          simp only at this
          subst this
          simp only [Option.map_some, Option.some.injEq, Addr.add] at he
          split at he <;> (subst he; rfl)
  have HG := Lib.hid hg
  have hnl : ¬ ((l.length : Int) < (n : Int)) := by omega
  have hcut1 : ∀ w, (Instr.sliceAt 28 (.slice A l.length c) none (some (.int .i64 (n : Int))) (some (.int .i64 (n : Int)))).run Try.prog w = .ok (.slice A n n) w := fun w => by
    obtain ⟨i, hi, hz0, hz1, hz2⟩ := info_parts u8info
    have := run_cut (P := Try.prog) w 28 5 i Try.underlying28 hi hz1 A l.length c none (some (.int .i64 (n : Int))) (some (.int .i64 (n : Int))) 0 n n (.inl ⟨rfl, rfl⟩) (.inr rfl) (.inr rfl) (by omega) (by omega) (by omega)
    rw [cutA_zero] at this
    exact this
  have hcut2 : ∀ w, (Instr.sliceAt 28 (.slice A l.length c) (some (.int .i64 (n : Int))) none none).run Try.prog w = .ok (.slice (cutA A n c) (l.length - n) (c - n)) w := fun w => cut_eq n l.length (.inr rfl) (.inl ⟨rfl, rfl⟩) (by omega) (by omega) rfl rfl rfl w
  clear h hset hg hlc
  go_enter Try.func53, Try.ntmps53
  go_wp2_with fail
  go_ret
  exact ⟨rfl, hR, HG.out⟩

theorem numM_long {most : Nat} {w : B8} {l : List B8} (h : 8 < w.toNat ∨ l.length < w.toNat) : numR most (w :: l) = none := by
  simp only [numR]
  rw [if_pos h]
theorem numM_zero {most : Nat} {w : B8} {l : List B8} (h8 : w.toNat ≤ 8) (hl : w.toNat ≤ l.length) (h : (l.take w.toNat)[0]? = some 0#8) : numR most (w :: l) = none := by
  simp only [numR]
  rw [if_neg (by omega), if_pos h]
theorem numM_val {most : Nat} {w : B8} {l : List B8} (h8 : w.toNat ≤ 8) (hl : w.toNat ≤ l.length) (h : (l.take w.toNat)[0]? ≠ some 0#8) :
    numR most (w :: l) = if most < fv (l.take w.toNat) then none else some (fv (l.take w.toNat), l.drop w.toNat) := by
  simp only [numR]
  rw [if_neg (by omega), if_neg h, fv_rev]
theorem FdAt.byte {w : World} {pr c : Nat} {A : Option Addr} {x : B8} {l : List B8} (h : FdAt w pr A c (x :: l)) : ∃ b off, A = some ⟨b, off, none⟩ ∧ b < pr ∧ w.cell? ⟨b, off, none⟩ = some (.int .u8 (x.toNat : Int)) := by
  obtain ⟨b, off, he, hc⟩ := h.at' 0 (bv x) rfl
  exact ⟨b, off, he, h.far b off he, hc⟩
/-- What a reader's num leaves. -/
def FNum (w : World) (pr : Nat) (o : Option (Nat × List B8)) (e : Ending) (w' : World) : Prop :=
  w.grownBy w' (some pr) ∧ ((∃ (n : Nat) (r : List B8) (A : Option Addr) (c : Nat), o = some (n, r) ∧ e = .returned (.int .i64 (n : Int)) ∧ FdAt w' pr A c r) ∨ (o = none ∧ e = .panicked wrongCh))

theorem or64 {f y : Nat} (h : f * 256 + y < 18446744073709551616) (hy : y < 256) : bits .or .u64 ((f : Int) * 256) (y : Int) = ((f * 256 + y : Nat) : Int) := by
  have e : bits .or .u64 ((f : Int) * 256) (y : Int) = IntKind.u64.wrap (((BitVec.ofInt 64 ((f : Int) * 256) ||| BitVec.ofInt 64 (y : Int)).toNat : Nat) : Int) := rfl
  have h1 : (BitVec.ofInt 64 ((f : Int) * 256)).toNat = f * 256 := by rw [BitVec.toNat_ofInt]; omega
  have h2 : (BitVec.ofInt 64 (y : Int)).toNat = y := by rw [BitVec.toNat_ofInt]; omega
  have hor : f * 256 ||| y = f * 256 + y := by
    have := Nat.shiftLeft_add_eq_or_of_lt (b := y) (i := 8) (by omega) f
    rw [Nat.shiftLeft_eq] at this
    exact this.symm
  rw [e, BitVec.toNat_or, h1, h2, hor, IntKind.wrap_u64]
  omega

set_option maxHeartbeats 2000000 in
set_option maxRecDepth 100000 in
theorem fnum_calls {w : World} {pr c most : Nat} {A : Option Addr} {l : List B8} (h : FdAt w pr A c l) (hm : most ≤ 1152921504606846976) :
    Calls Try.prog 52 #[.pointer (some ⟨pr, 0, none⟩), .int .i64 (most : Int)] w (FNum w pr (numR most l)) := by
  cases l with
  | nil =>
    have HT := Lib.hid (ftake_bad 1 h (by decide))
    have hno : numR most ([] : List B8) = none := rfl
    rw [hno]
    clear hno
    go_enter Try.func52, Try.ntmps52
    go_wp2_with fail
    refine HT.out.mono ?_
    rintro e w2 ⟨rfl, rfl⟩
    go_wp2_with fail
    exact ⟨rfl, grown_refl _ _, .inr ⟨rfl, rfl⟩⟩
  | cons x l1 =>
    obtain ⟨b0, off, rfl, hbp, hcx⟩ := h.byte
    have HT := Lib.hid (ftake_good 1 h (by simp))
    rw [show (x :: l1).drop 1 = l1 from rfl] at HT
    have hx256 := x.isLt
    generalize ho : numR most (x :: l1) = o
    have HO := Lib.hid ho
    clear ho
    go_enter Try.func52, Try.ntmps52
    go_wp2_with fail
    refine HT.out.mono ?_
    rintro e w2 ⟨rfl, hR, hg⟩
    have hc2 := hg.cell hcx (by simp; omega)
    clear h HT hcx
    by_cases h8 : 8 < x.toNat
    · have HN := Lib.hid (numM_long (most := most) (l := l1) (.inl h8))
      have hxi : (8 : Int) < (x.toNat : Int) := by omega
      clear hR
      go_wp2_with fail
      exact ⟨rfl, hg, .inr ⟨by rw [← HO.out]; exact HN.out, rfl⟩⟩
    · have hxi : ¬ ((8 : Int) < (x.toNat : Int)) := by omega
      by_cases hl : l1.length < x.toNat
      · have HN := Lib.hid (numM_long (most := most) (l := l1) (.inr hl))
        have HT2 := Lib.hid (ftake_bad (x.toNat : Int) hR (by omega))
        clear hR
        go_wp2_with fail
        refine HT2.out.mono ?_
        rintro e w3 ⟨rfl, rfl⟩
        go_wp2_with fail
        exact ⟨rfl, hg, .inr ⟨by rw [← HO.out]; exact HN.out, rfl⟩⟩
      · have HT2 := Lib.hid (ftake_good x.toNat hR (by omega))
        have hat2 := hR.at'
        have hfar2 := hR.far
        have hlen : (l1.take x.toNat).length = x.toNat := by simp; omega
        have hatb := hat2.take x.toNat
        rw [bys_take] at hatb
        have h88 : x.toNat ≤ 8 := by omega
        have HFT := fun h => Lib.hid (numM_zero (most := most) (w := x) (l := l1) h88 (by omega) h)
        have HFF := fun h => Lib.hid (numM_val (most := most) (w := x) (l := l1) h88 (by omega) h)
        rw [HO.out] at HFT HFF
        generalize l1.take x.toNat = b at *
        generalize l1.drop x.toNat = r at *
        generalize x.toNat = n at *
        subst hlen
        clear hR hat2 HO
        go_wp2_with fail
        refine HT2.out.mono ?_
        rintro e w3 ⟨rfl, hR3, hg3⟩
        have hatb3 := hatb.grown' hg3 (fun b' off' he hh => by injection hh with hh; have := hfar2 b' off' he; omega)
        generalize cutA (some ⟨b0, off, none⟩) 1 c = A2 at *
        clear hc2 hatb hfar2 HT2
        have hG3 := grown_trans hg hg3
        clear hg hg3
        have hflt := fv_lt b
        have hpow : 256 ^ b.length ≤ 256 ^ 8 := Nat.pow_le_pow_right (by decide) h88
        have hp8 : (256 : Nat) ^ 8 = 18446744073709551616 := by decide
        have HLT : Hid (fv b < 18446744073709551616) := by show _ < _; omega
        clear hflt hpow hp8
        have hz : b[0]? = some 0#8 ∨ b[0]? ≠ some 0#8 := Classical.em _
        rcases hz with hz | hz
        · have HN := HFT hz
          have hb0 : 0 < b.length := by
            cases b with
            | nil => cases hz
            | cons y m => simp
          have hbi : (0 : Int) < (b.length : Int) := by omega
          obtain ⟨b', off', rfl, hcb⟩ := hatb3.byte (k := 0) hb0
          have hq0 : b[0]? = some b[0] := List.getElem?_eq_getElem hb0
          have hy0 : (b[0].toNat : Int) = 0 := by rw [hz] at hq0; injection hq0 with hq0; rw [← hq0]; rfl
          rw [Nat.add_zero, hy0] at hcb
          clear hq0 hz hy0 HFT HFF
          go_wp2_with fail
          go_loop [26] (fun s => s = .int .i64 0) (fun _ => 0)
          case atStart => rfl
          case round =>
            subst hrel
            go_wp2_with fail
            exact ⟨rfl, hG3, .inr ⟨HN.out, rfl⟩⟩
        · have HV := HFF hz
          have HZ := Lib.hid hz
          clear HFT HFF hz
          go_wp2_with fail
          go_loop [6, 26] (fun s6 s26 => ∃ t : Nat, t ≤ b.length ∧ s26 = .int .i64 ((t : Nat) : Int) ∧ s6 = .int .u64 ((fv (b.take t) : Nat) : Int)) (fun _ s26 => b.length - (intOf s26).toNat)
          case atStart => exact ⟨0, by omega, rfl, rfl⟩
          case round =>
            obtain ⟨t, ht, rfl, rfl⟩ := hrel
            by_cases htb : t < b.length
            · have hti : (t : Int) < (b.length : Int) := by omega
              obtain ⟨b', off', rfl, hcb⟩ := hatb3.byte (k := t) htb
              have hstep := fv_take htb
              have hmono := fv_take_le b (b.length - (t + 1)) (t + 1) (by omega)
              have hlt := HLT.out
              have hHead : t = 0 → b[t].toNat ≠ 0 := by
                rintro rfl h
                exact HZ.out (by rw [List.getElem?_eq_getElem htb]; congr 1; exact BitVec.eq_of_toNat_eq (by simpa using h))
              have hy8 := b[t].isLt
              generalize b[t] = y at *
              generalize hf0 : fv (b.take t) = f at *
              have HST := Lib.hid hstep
              have hfy : f * 256 + y.toNat < 18446744073709551616 := by omega
              have HOR := Lib.hid (or64 hfy (by omega))
              clear hstep hmono hf0
              by_cases ht0 : t = 0
              · have hh1 := hHead ht0
                subst ht0
                rw [Nat.add_zero] at hcb
                have hyi : ((y.toNat : Int) == 0) = false := beq_eq_false_iff_ne.2 (by omega)
                clear hh1 hHead
                go_wp2_with fail
                exact ⟨⟨1, by omega, rfl, by rw [HST.out, HOR.out]⟩, by simp [intOf]; omega⟩
              · have hti0 : ((t : Int) == 0) = false := beq_eq_false_iff_ne.2 (by omega)
                clear hHead
                go_wp2_with fail
                exact ⟨⟨t + 1, by omega, by go_num, by rw [HST.out, HOR.out]⟩, by simp [intOf]; omega⟩
            · obtain rfl : b.length = t := by omega
              rw [List.take_length]
              have hlt := HLT.out
              generalize fv b = f at *
              by_cases hbig : most < f
              · rw [if_pos hbig] at HV
                have hbi : (most : Int) < (f : Int) := by omega
                go_wp2_with fail
                exact ⟨rfl, hG3, .inr ⟨HV.out, rfl⟩⟩
              · rw [if_neg hbig] at HV
                have hbi : ¬ ((most : Int) < (f : Int)) := by omega
                go_wp2_with fail
                go_ret
                exact ⟨hG3, .inl ⟨f, r, _, _, HV.out, rfl, hR3⟩⟩

end Go.Proofs.Ytfcacplecapgfaa
