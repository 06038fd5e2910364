/- Contract: frame's reader: cmd. -/
import Derived.Test.YtfcacplecapgfaaE13
namespace Go.Proofs.Ytfcacplecapgfaa
open Go.RowKit
set_option linter.unusedVariables false
set_option linter.unusedSimpArgs false

/-- A command of numbers. -/
def mkC (ms : List Nat) (s : Nat) (km : List Nat) (key : ByteArray) : Cm :=
  ⟨(ms.getD 0 0 : Nat), (ms.getD 1 0 : Nat), key, (ms.getD 2 0 : Nat), (ms.getD 3 0 : Nat), (ms.getD 4 0 : Nat), (ms.getD 5 0 : Nat), (ms.getD 6 0 : Nat), (s : Nat), (km.getD 0 0 : Nat), (km.getD 1 0 : Nat)⟩
/-- The command at the beginning of bytes, and what stands behind. -/
def readC (l : List B8) : Option ((Cm × List Int) × List B8) :=
  (numsR 1152921504606846976 7 l).bind fun a => (numR 4294967295 a.2).bind fun b => (numsR 255 2 b.2).bind fun c => (numR 8 c.2).bind fun d =>
    if d.2.length < d.1 then none else (numR 255 (d.2.drop d.1)).bind fun e => (numsR 15 e.1 e.2).bind fun f =>
      if mayC (mkC a.1 b.1 c.1 (str (d.2.take d.1))) (natsV f.1) = true then some ((mkC a.1 b.1 c.1 (str (d.2.take d.1)), natsV f.1), f.2) else none

/-- A command that is nought. -/
def zeroC : Cm := ⟨0, 0, ⟨#[]⟩, 0, 0, 0, 0, 0, 0, 0, 0⟩
theorem len7 {α : Type} {l : List α} (h : l.length = 7) : ∃ a0 a1 a2 a3 a4 a5 a6, l = [a0, a1, a2, a3, a4, a5, a6] := by
  match l, h with
  | [a0, a1, a2, a3, a4, a5, a6], _ => exact ⟨a0, a1, a2, a3, a4, a5, a6, rfl⟩
theorem len2 {α : Type} {l : List α} (h : l.length = 2) : ∃ a0 a1, l = [a0, a1] := by
  match l, h with
  | [a0, a1], _ => exact ⟨a0, a1, rfl⟩

theorem FdAt.below {w w' : World} {pr c : Nat} {A : Option Addr} {l : List B8} (h : FdAt w pr A c l) (hb : Below w.heap.size w w') : FdAt w' pr A c l :=
  ⟨(hb.block pr (Array.getElem?_eq_some_iff.1 h.hd).1).trans h.hd, h.at'.below hb, h.far, h.len, h.nil, h.spot⟩
/-- The first boxes of cmd. -/
theorem read_boxes (w : World) : ∃ w3, w3 = ((w.alloc (.cells #[.int .i64 0, .int .i64 0, .string ⟨#[]⟩, .int .i64 0, .int .i64 0, .int .i64 0, .int .i64 0, .int .i64 0, .int .u32 0, .int .i64 0, .int .i64 0, .slice none 0 0] 27)).alloc (.cells #[.int .i64 0, .int .i64 0, .string ⟨#[]⟩, .int .i64 0, .int .i64 0, .int .i64 0, .int .i64 0, .int .i64 0, .int .u32 0, .int .i64 0, .int .i64 0, .slice none 0 0] 27)).alloc (.cells #[.pointer (some ⟨w.heap.size + 1, 0, none⟩), .pointer (some ⟨w.heap.size + 1, 1, none⟩), .pointer (some ⟨w.heap.size + 1, 3, none⟩), .pointer (some ⟨w.heap.size + 1, 4, none⟩), .pointer (some ⟨w.heap.size + 1, 5, none⟩), .pointer (some ⟨w.heap.size + 1, 6, none⟩), .pointer (some ⟨w.heap.size + 1, 7, none⟩)] 92) ∧ Below w.heap.size w w3 ∧ w3.heap[w.heap.size]? = some (.cells #[.int .i64 0, .int .i64 0, .string ⟨#[]⟩, .int .i64 0, .int .i64 0, .int .i64 0, .int .i64 0, .int .i64 0, .int .u32 0, .int .i64 0, .int .i64 0, .slice none 0 0] 27 (0, 0)) ∧
    w3.heap[w.heap.size + 1]? = some (.cells #[.int .i64 0, .int .i64 0, .string ⟨#[]⟩, .int .i64 0, .int .i64 0, .int .i64 0, .int .i64 0, .int .i64 0, .int .u32 0, .int .i64 0, .int .i64 0, .slice none 0 0] 27 (0, 0)) ∧ At w3 (some ⟨w.heap.size + 1 + 1, 0, none⟩) (ptrs (w.heap.size + 1) [0, 1, 3, 4, 5, 6, 7]) ∧ w3.heap.size = w.heap.size + 3 := by
  refine ⟨_, rfl, ?_⟩
  have hb1 := below1' w (.cells #[.int .i64 0, .int .i64 0, .string ⟨#[]⟩, .int .i64 0, .int .i64 0, .int .i64 0, .int .i64 0, .int .i64 0, .int .u32 0, .int .i64 0, .int .i64 0, .slice none 0 0] 27)
  have h1 : (w.alloc (.cells #[.int .i64 0, .int .i64 0, .string ⟨#[]⟩, .int .i64 0, .int .i64 0, .int .i64 0, .int .i64 0, .int .i64 0, .int .u32 0, .int .i64 0, .int .i64 0, .slice none 0 0] 27)).heap[w.heap.size]? = some (.cells #[.int .i64 0, .int .i64 0, .string ⟨#[]⟩, .int .i64 0, .int .i64 0, .int .i64 0, .int .i64 0, .int .i64 0, .int .u32 0, .int .i64 0, .int .i64 0, .slice none 0 0] 27 (0, 0)) := heap_alloc_new w _
  have hs1 : (w.alloc (.cells #[.int .i64 0, .int .i64 0, .string ⟨#[]⟩, .int .i64 0, .int .i64 0, .int .i64 0, .int .i64 0, .int .i64 0, .int .u32 0, .int .i64 0, .int .i64 0, .slice none 0 0] 27)).heap.size = w.heap.size + 1 := by simp
  generalize w.alloc (.cells #[.int .i64 0, .int .i64 0, .string ⟨#[]⟩, .int .i64 0, .int .i64 0, .int .i64 0, .int .i64 0, .int .i64 0, .int .u32 0, .int .i64 0, .int .i64 0, .slice none 0 0] 27) = wa at *
  have hb2 := below1' wa (.cells #[.int .i64 0, .int .i64 0, .string ⟨#[]⟩, .int .i64 0, .int .i64 0, .int .i64 0, .int .i64 0, .int .i64 0, .int .u32 0, .int .i64 0, .int .i64 0, .slice none 0 0] 27)
  have h2 : (wa.alloc (.cells #[.int .i64 0, .int .i64 0, .string ⟨#[]⟩, .int .i64 0, .int .i64 0, .int .i64 0, .int .i64 0, .int .i64 0, .int .u32 0, .int .i64 0, .int .i64 0, .slice none 0 0] 27)).heap[wa.heap.size]? = some (.cells #[.int .i64 0, .int .i64 0, .string ⟨#[]⟩, .int .i64 0, .int .i64 0, .int .i64 0, .int .i64 0, .int .i64 0, .int .u32 0, .int .i64 0, .int .i64 0, .slice none 0 0] 27 (0, 0)) := heap_alloc_new wa _
  have hs2 : (wa.alloc (.cells #[.int .i64 0, .int .i64 0, .string ⟨#[]⟩, .int .i64 0, .int .i64 0, .int .i64 0, .int .i64 0, .int .i64 0, .int .u32 0, .int .i64 0, .int .i64 0, .slice none 0 0] 27)).heap.size = w.heap.size + 1 + 1 := by simp; omega
  rw [hs1] at h2
  have h12 := (hb2.block w.heap.size (by omega)).trans h1
  generalize wa.alloc (.cells #[.int .i64 0, .int .i64 0, .string ⟨#[]⟩, .int .i64 0, .int .i64 0, .int .i64 0, .int .i64 0, .int .i64 0, .int .u32 0, .int .i64 0, .int .i64 0, .slice none 0 0] 27) = wb at *
  have hb3 := below1' wb (.cells #[.pointer (some ⟨w.heap.size + 1, 0, none⟩), .pointer (some ⟨w.heap.size + 1, 1, none⟩), .pointer (some ⟨w.heap.size + 1, 3, none⟩), .pointer (some ⟨w.heap.size + 1, 4, none⟩), .pointer (some ⟨w.heap.size + 1, 5, none⟩), .pointer (some ⟨w.heap.size + 1, 6, none⟩), .pointer (some ⟨w.heap.size + 1, 7, none⟩)] 92)
  have hat := at_new wb #[.pointer (some ⟨w.heap.size + 1, 0, none⟩), .pointer (some ⟨w.heap.size + 1, 1, none⟩), .pointer (some ⟨w.heap.size + 1, 3, none⟩), .pointer (some ⟨w.heap.size + 1, 4, none⟩), .pointer (some ⟨w.heap.size + 1, 5, none⟩), .pointer (some ⟨w.heap.size + 1, 6, none⟩), .pointer (some ⟨w.heap.size + 1, 7, none⟩)] 92 (0, 0)
  rw [hs2] at hat
  exact ⟨(hb1.trans (hb2.mono hb1.size)).trans (hb3.mono (by omega)), (hb3.block w.heap.size (by omega)).trans h12, (hb3.block (w.heap.size + 1) (by omega)).trans h2, hat, by simp; omega⟩

/-- What a reader's cmd leaves. -/
def FCmd (w : World) (pr : Nat) (o : Option ((Cm × List Int) × List B8)) (e : Ending) (w' : World) : Prop :=
  w.grownBy w' (some pr) ∧ ((∃ (c : Cm) (ns : List Int) (r : List B8) (A : Option Addr) (d : Nat) (P : Option Addr) (e' : Nat), o = some ((c, ns), r) ∧ e = .returned (cmv c (.slice P ns.length e')) ∧ FdAt w' pr A d r ∧ w'.ownsRow w.heap.size 3 1 (.slice P ns.length e') ns.length (ints ns)) ∨ (o = none ∧ e = .panicked wrongCh))

theorem two_grown {w w3 w' : World} {pr : Nat} (hb : Below w.heap.size w w3) (h : Two w3 w' pr (w.heap.size + 1)) : w.grownBy w' (some pr) :=
  ⟨h.os.trans hb.os, h.tape.trans hb.tape, h.output.trans hb.output, Nat.le_trans hb.size h.size, fun k hk hne => (h.block k (Nat.lt_of_lt_of_le hk hb.size) (fun he => hne (by rw [he])) (by omega)).trans (hb.block k hk)⟩
theorem Two.alloc (w : World) (o : Obj) (p g : Nat) : Two w (w.alloc o) p g := ⟨rfl, rfl, rfl, by simp, fun k hk _ _ => Below.heap_alloc w o k hk⟩

theorem step_app_ints {w : World} {ops : Array Oper} {E : Prop} {o : Oper} {a : Act} {K : Act → World → Prop} {Q : Exit → Act → World → Prop}
    (hg : o.guard = none) (s x : Operand) (hop : o.op = Op.call { callee := Callee.builtin Builtin.append, args := #[s, x], argTypes := #[25, 25] })
    (base : Nat) {v : Value} {n : Nat} {xs : List Int} (hs : a.eval s = v) (hown : w.ownsRow base 3 1 v n (ints xs))
    {A : Option Addr} {m c : Nat} (hx : a.eval x = .slice A m c) {news : List Int} (hl : news.length = m) (hA : At w A (ints news))
    (hnil : A = none → c = 0) (hbytes : (n + m) * 8 ≤ 140737488355328) (hbase : base ≤ w.heap.size)
    (hK : ∀ A' c' w', w'.ownsRow base 3 1 (.slice A' (n + m) c') (n + m) (ints (xs ++ news)) → Below base w w' → K (a.put o.dst (.slice A' (n + m) c')) w') :
    if Region.wanted o (yielded ops a.tmps) = true then o.wp Try.prog a w K Q else E := by
  rw [if_pos (by simp [Region.wanted, hg])]
  exact wp_app_ints s x hop base hs hown hx hl hA hnil hbytes hbase fun A' c' w' h1 h2 _ _ => hK A' c' w' h1 h2
theorem FdAt.belowB {w w' : World} {pr c B : Nat} {A : Option Addr} {l : List B8} (h : FdAt w pr A c l) (hb : Below B w w') (hp : pr < B) : FdAt w' pr A c l := by
  refine ⟨(hb.block pr hp).trans h.hd, ?_, h.far, h.len, h.nil, h.spot⟩
  intro i x hx
  obtain ⟨b, off, he, hc⟩ := h.at' i x hx
  exact ⟨b, off, he, (World.cell?_of_block (hb.block b (Nat.lt_trans (h.far b off he) hp))).trans hc⟩
theorem own_keep {w w' : World} {B e sz n p : Nat} {v : Value} {xs : List Value} (h : w.ownsRow B e sz v n xs) (hg : w.grownBy w' (some p)) (hp : p < B) : w'.ownsRow B e sz v n xs := by
  refine h.kept hg ?_
  cases hu : v.ownBlock with
  | none => exact .inl rfl
  | some b => exact .inr (fun he => by injection he with he; have := (h.lt b hu).1; omega)
theorem Two.below {w w1 w2 : World} {p g : Nat} (h : Two w w1 p g) (hb : Below w.heap.size w1 w2) : Two w w2 p g :=
  ⟨hb.os.trans h.os, hb.tape.trans h.tape, hb.output.trans h.output, Nat.le_trans h.size hb.size, fun k hk h1 h2 => (hb.block k hk).trans (h.block k hk h1 h2)⟩

set_option maxHeartbeats 8000000 in
set_option maxRecDepth 100000 in
theorem fcmdR_calls {w : World} {pr c : Nat} {A : Option Addr} {l : List B8} (h : FdAt w pr A c l) :
    Calls Try.prog 29 #[.pointer (some ⟨pr, 0, none⟩)] w (FCmd w pr (readC l)) := by
  have hpr : pr < w.heap.size := (Array.getElem?_eq_some_iff.1 h.hd).1
  generalize ho : readC l = o
  have HO := Lib.hid ho
  clear ho
  obtain ⟨w3, hw3, hB3, hr0, hrg, hat, hz3⟩ := read_boxes w
  have HW3 := Lib.hid hw3
  have HN1 := Lib.hid (fnums_calls (most := 1152921504606846976) (n := 7) (d := 7) (h.below hB3) (Nat.le_refl _) (by omega : pr < w.heap.size + 1) hrg hat (fun b off he => by injection he with he; injection he with he1 he2; omega) rfl (by decide) (by decide))
  clear hw3 h
  go_enter Try.func29, Try.ntmps29
  go_wp2_with fail
  have hw3 := HW3.out
  rw [← hw3]
  clear hw3 HW3
  refine HN1.out.mono ?_
  rintro e w4 ⟨hT4, ⟨ms, r4, A4, c4, h1, hml, rfl, hF4, hg4⟩ | ⟨h1, rfl⟩⟩
  rotate_left
  · have hon : Hid (o = none) := by show o = none; rw [← HO.out]; unfold readC; rw [show numsR 1152921504606846976 7 l = none from h1]; rfl
    go_wp2_with fail
    refine ⟨rfl, ?_, .inr ⟨hon.out, rfl⟩⟩
    exact ⟨hT4.os.trans hB3.os, hT4.tape.trans hB3.tape, hT4.output.trans hB3.output, Nat.le_trans hB3.size hT4.size, fun k hk hne => (hT4.block k (by omega) (fun he => hne (by rw [he])) (by omega)).trans (hB3.block k hk)⟩
  · obtain ⟨a0, a1, a2, a3, a4, a5, a6, rfl⟩ := len7 hml
    have hg4' : w4.heap[w.heap.size + 1]? = some (.cells #[.int .i64 (Cm.mk (a0 : Int) (a1 : Int) ⟨#[]⟩ (a2 : Int) (a3 : Int) (a4 : Int) (a5 : Int) (a6 : Int) 0 0 0).id, .int .i64 (Cm.mk (a0 : Int) (a1 : Int) ⟨#[]⟩ (a2 : Int) (a3 : Int) (a4 : Int) (a5 : Int) (a6 : Int) 0 0 0).kind, .string (Cm.mk (a0 : Int) (a1 : Int) ⟨#[]⟩ (a2 : Int) (a3 : Int) (a4 : Int) (a5 : Int) (a6 : Int) 0 0 0).key, .int .i64 (Cm.mk (a0 : Int) (a1 : Int) ⟨#[]⟩ (a2 : Int) (a3 : Int) (a4 : Int) (a5 : Int) (a6 : Int) 0 0 0).blob, .int .i64 (Cm.mk (a0 : Int) (a1 : Int) ⟨#[]⟩ (a2 : Int) (a3 : Int) (a4 : Int) (a5 : Int) (a6 : Int) 0 0 0).other, .int .i64 (Cm.mk (a0 : Int) (a1 : Int) ⟨#[]⟩ (a2 : Int) (a3 : Int) (a4 : Int) (a5 : Int) (a6 : Int) 0 0 0).index, .int .i64 (Cm.mk (a0 : Int) (a1 : Int) ⟨#[]⟩ (a2 : Int) (a3 : Int) (a4 : Int) (a5 : Int) (a6 : Int) 0 0 0).node, .int .i64 (Cm.mk (a0 : Int) (a1 : Int) ⟨#[]⟩ (a2 : Int) (a3 : Int) (a4 : Int) (a5 : Int) (a6 : Int) 0 0 0).size, .int .u32 (Cm.mk (a0 : Int) (a1 : Int) ⟨#[]⟩ (a2 : Int) (a3 : Int) (a4 : Int) (a5 : Int) (a6 : Int) 0 0 0).sum, .int .i64 (Cm.mk (a0 : Int) (a1 : Int) ⟨#[]⟩ (a2 : Int) (a3 : Int) (a4 : Int) (a5 : Int) (a6 : Int) 0 0 0).k, .int .i64 (Cm.mk (a0 : Int) (a1 : Int) ⟨#[]⟩ (a2 : Int) (a3 : Int) (a4 : Int) (a5 : Int) (a6 : Int) 0 0 0).m, .slice none 0 0] 27 (0, 0)) := hg4
    have H1 := Lib.hid (show numsR 1152921504606846976 7 l = some ([a0, a1, a2, a3, a4, a5, a6], r4) from h1)
    have hr4 := (hT4.block w.heap.size (by omega) (by omega) (by omega)).trans hr0
    have hz4 := hT4.size
    have HN2 := Lib.hid (fnum_calls (most := 4294967295) hF4 (by decide))
    have HR0 := Lib.hid hr0
    clear h1 hml hg4 HN1 hat hr0 hrg
    have HT4 := Lib.hid hT4
    have HB3 := Lib.hid hB3
    clear hT4 hB3
    go_wp2_with fail
    refine HN2.out.mono ?_
    rintro e w5 ⟨hgr5, ⟨s, r5, A5, c5, h2, rfl, hF5⟩ | ⟨h2, rfl⟩⟩
    · have hg5 := (hgr5.block (w.heap.size + 1) (by omega) (by intro he; injection he with he; omega)).trans hg4'
      have hc5 := cell_of_row _ _ 8 _ _ (0, 0) hg5
      have hf5 := frozen_of_row _ _ 8 _ _ hg5
      simp only [List.getElem?_toArray, List.getElem?_cons_succ, List.getElem?_cons_zero] at hc5
      have hs32 : s ≤ 4294967295 := (numR_some h2).2.1
      have H2 := Lib.hid h2
      have hset6 := heap_setCell_same w5 (w.heap.size + 1) 8 _ _ (.int .u32 (s : Int)) hg5
      have hg6 : (w5.setCell ⟨w.heap.size + 1, 8, none⟩ (.int .u32 (s : Int))).heap[w.heap.size + 1]? = some (.cells #[.int .i64 (Cm.mk (a0 : Int) (a1 : Int) ⟨#[]⟩ (a2 : Int) (a3 : Int) (a4 : Int) (a5 : Int) (a6 : Int) (s : Int) 0 0).id, .int .i64 (Cm.mk (a0 : Int) (a1 : Int) ⟨#[]⟩ (a2 : Int) (a3 : Int) (a4 : Int) (a5 : Int) (a6 : Int) (s : Int) 0 0).kind, .string (Cm.mk (a0 : Int) (a1 : Int) ⟨#[]⟩ (a2 : Int) (a3 : Int) (a4 : Int) (a5 : Int) (a6 : Int) (s : Int) 0 0).key, .int .i64 (Cm.mk (a0 : Int) (a1 : Int) ⟨#[]⟩ (a2 : Int) (a3 : Int) (a4 : Int) (a5 : Int) (a6 : Int) (s : Int) 0 0).blob, .int .i64 (Cm.mk (a0 : Int) (a1 : Int) ⟨#[]⟩ (a2 : Int) (a3 : Int) (a4 : Int) (a5 : Int) (a6 : Int) (s : Int) 0 0).other, .int .i64 (Cm.mk (a0 : Int) (a1 : Int) ⟨#[]⟩ (a2 : Int) (a3 : Int) (a4 : Int) (a5 : Int) (a6 : Int) (s : Int) 0 0).index, .int .i64 (Cm.mk (a0 : Int) (a1 : Int) ⟨#[]⟩ (a2 : Int) (a3 : Int) (a4 : Int) (a5 : Int) (a6 : Int) (s : Int) 0 0).node, .int .i64 (Cm.mk (a0 : Int) (a1 : Int) ⟨#[]⟩ (a2 : Int) (a3 : Int) (a4 : Int) (a5 : Int) (a6 : Int) (s : Int) 0 0).size, .int .u32 (Cm.mk (a0 : Int) (a1 : Int) ⟨#[]⟩ (a2 : Int) (a3 : Int) (a4 : Int) (a5 : Int) (a6 : Int) (s : Int) 0 0).sum, .int .i64 (Cm.mk (a0 : Int) (a1 : Int) ⟨#[]⟩ (a2 : Int) (a3 : Int) (a4 : Int) (a5 : Int) (a6 : Int) (s : Int) 0 0).k, .int .i64 (Cm.mk (a0 : Int) (a1 : Int) ⟨#[]⟩ (a2 : Int) (a3 : Int) (a4 : Int) (a5 : Int) (a6 : Int) (s : Int) 0 0).m, .slice none 0 0] 27 (0, 0)) := hset6
      have hF6 := hF5.other (o := 8) (v := .int .u32 (s : Int)) (by omega : pr < w.heap.size + 1)
      have HT6 := Lib.hid ((HT4.out.trans (Two.of1 hgr5)).trans (Two.of2 (grown_set w5 (w.heap.size + 1) 8 (.int .u32 (s : Int)))))
      have hsz6 : (w5.setCell ⟨w.heap.size + 1, 8, none⟩ (.int .u32 (s : Int))).heap.size = w5.heap.size := by simp
      have hz5 := hgr5.size
      have hr5 := (hgr5.block w.heap.size (by omega) (by intro he; injection he with he; omega)).trans hr4
      have hr6 := (heap_setCell_other w5 ⟨w.heap.size + 1, 8, none⟩ w.heap.size (.int .u32 (s : Int)) (by simp)).trans hr5
      clear h2 HN2 hset6 hF5 hF4 hg4' hr4 hr5
      go_wp2_with fail
      generalize w5.setCell ⟨w.heap.size + 1, 8, none⟩ (.int .u32 (s : Int)) = w6 at *
      rw [← hsz6]
      have hbl := below1' w6 (.cells #[.pointer (some ⟨w.heap.size + 1, 9, none⟩), .pointer (some ⟨w.heap.size + 1, 10, none⟩)] 92)
      have hat : At (w6.alloc (.cells #[.pointer (some ⟨w.heap.size + 1, 9, none⟩), .pointer (some ⟨w.heap.size + 1, 10, none⟩)] 92)) (some ⟨w6.heap.size, 0, none⟩) (ptrs (w.heap.size + 1) [9, 10]) := at_new w6 #[.pointer (some ⟨w.heap.size + 1, 9, none⟩), .pointer (some ⟨w.heap.size + 1, 10, none⟩)] 92 (0, 0)
      have hg7 := (hbl.block (w.heap.size + 1) (by omega)).trans hg6
      have hr7 := (hbl.block w.heap.size (by omega)).trans hr6
      have HT7 := Lib.hid (HT6.out.trans (Two.alloc w6 (.cells #[.pointer (some ⟨w.heap.size + 1, 9, none⟩), .pointer (some ⟨w.heap.size + 1, 10, none⟩)] 92) pr (w.heap.size + 1)))
      have HN3 := Lib.hid (fnums_calls (most := 255) (n := 2) (d := 2) (hF6.below hbl) (by decide) (by omega : pr < w.heap.size + 1) hg7 hat (fun b off he => by injection he with he; injection he with he1 he2; omega) rfl (fun o ho => by simp at ho ⊢; omega) (by decide))
      have hz7 : w6.heap.size ≤ (w6.alloc (.cells #[.pointer (some ⟨w.heap.size + 1, 9, none⟩), .pointer (some ⟨w.heap.size + 1, 10, none⟩)] 92)).heap.size := by simp
      generalize w6.alloc (.cells #[.pointer (some ⟨w.heap.size + 1, 9, none⟩), .pointer (some ⟨w.heap.size + 1, 10, none⟩)] 92) = w7 at *
      clear hat hbl hF6 hg6 hr6 hg7 hg5 hc5 hf5
      refine HN3.out.mono ?_
      rintro e w8 ⟨hT8, ⟨km, r8, A8, c8, h3, hkl, rfl, hF8, hg8⟩ | ⟨h3, rfl⟩⟩
      rotate_left
      · have hon : Hid (o = none) := by
          show o = none
          rw [← HO.out]; unfold readC; rw [H1.out, Option.bind_some, H2.out, Option.bind_some, show numsR 255 2 r5 = none from h3]; rfl
        go_wp2_with fail
        exact ⟨rfl, two_grown HB3.out (HT7.out.trans hT8), .inr ⟨hon.out, rfl⟩⟩
      · obtain ⟨k0, k1, rfl⟩ := len2 hkl
        have H3 := Lib.hid (show numsR 255 2 r5 = some ([k0, k1], r8) from h3)
        have hg8' : w8.heap[w.heap.size + 1]? = some (.cells #[.int .i64 (Cm.mk (a0 : Int) (a1 : Int) ⟨#[]⟩ (a2 : Int) (a3 : Int) (a4 : Int) (a5 : Int) (a6 : Int) (s : Int) (k0 : Int) (k1 : Int)).id, .int .i64 (Cm.mk (a0 : Int) (a1 : Int) ⟨#[]⟩ (a2 : Int) (a3 : Int) (a4 : Int) (a5 : Int) (a6 : Int) (s : Int) (k0 : Int) (k1 : Int)).kind, .string (Cm.mk (a0 : Int) (a1 : Int) ⟨#[]⟩ (a2 : Int) (a3 : Int) (a4 : Int) (a5 : Int) (a6 : Int) (s : Int) (k0 : Int) (k1 : Int)).key, .int .i64 (Cm.mk (a0 : Int) (a1 : Int) ⟨#[]⟩ (a2 : Int) (a3 : Int) (a4 : Int) (a5 : Int) (a6 : Int) (s : Int) (k0 : Int) (k1 : Int)).blob, .int .i64 (Cm.mk (a0 : Int) (a1 : Int) ⟨#[]⟩ (a2 : Int) (a3 : Int) (a4 : Int) (a5 : Int) (a6 : Int) (s : Int) (k0 : Int) (k1 : Int)).other, .int .i64 (Cm.mk (a0 : Int) (a1 : Int) ⟨#[]⟩ (a2 : Int) (a3 : Int) (a4 : Int) (a5 : Int) (a6 : Int) (s : Int) (k0 : Int) (k1 : Int)).index, .int .i64 (Cm.mk (a0 : Int) (a1 : Int) ⟨#[]⟩ (a2 : Int) (a3 : Int) (a4 : Int) (a5 : Int) (a6 : Int) (s : Int) (k0 : Int) (k1 : Int)).node, .int .i64 (Cm.mk (a0 : Int) (a1 : Int) ⟨#[]⟩ (a2 : Int) (a3 : Int) (a4 : Int) (a5 : Int) (a6 : Int) (s : Int) (k0 : Int) (k1 : Int)).size, .int .u32 (Cm.mk (a0 : Int) (a1 : Int) ⟨#[]⟩ (a2 : Int) (a3 : Int) (a4 : Int) (a5 : Int) (a6 : Int) (s : Int) (k0 : Int) (k1 : Int)).sum, .int .i64 (Cm.mk (a0 : Int) (a1 : Int) ⟨#[]⟩ (a2 : Int) (a3 : Int) (a4 : Int) (a5 : Int) (a6 : Int) (s : Int) (k0 : Int) (k1 : Int)).k, .int .i64 (Cm.mk (a0 : Int) (a1 : Int) ⟨#[]⟩ (a2 : Int) (a3 : Int) (a4 : Int) (a5 : Int) (a6 : Int) (s : Int) (k0 : Int) (k1 : Int)).m, .slice none 0 0] 27 (0, 0)) := hg8
        have HT8 := Lib.hid (HT7.out.trans hT8)
        have hr8 := (hT8.block w.heap.size (by omega) (by omega) (by omega)).trans hr7
        have hz8 := hT8.size
        clear h3 hkl hg8 hT8 hr7 HN3
        go_wp2_with fail
        have hD : Below w8.heap.size w8 w8.drew := (belowN 1 : Below w8.heap.size w8 (w8.drewN 1))
        have hFD := hF8.below hD
        have hgD := (hD.block (w.heap.size + 1) (by omega)).trans hg8'
        have hrD := (hD.block w.heap.size (by omega)).trans hr8
        have HTD := Lib.hid (HT8.out.trans (Two.of1 (p := pr) (g := w.heap.size + 1) (grown_of_below hD (some pr))))
        have hzD := hD.size
        refine wp_region_held_drew (S := fun _ => True) (by kernel_rfl) trivial (fun _ => ?_)
        generalize w8.drew = WD at *
        clear hD hF8 hg8' hr8
        have HN4 := Lib.hid (fnum_calls (most := 8) hFD (by decide))
        refine wpAnyH_take (i := 0) (v := ?_) rfl (by kernel_rfl) (by kernel_rfl) (by kernel_rfl) (fun _ _ _ h => h) (Or.inl ⟨by rfl, ?_⟩) (by assumption) ?_; rotate_left; (intro w hSw; (try dsimp only at hSw); go_simp; (first | done | (with_reducible rfl))); (try simp only [List.getElem_toArray, List.getElem_cons_succ, List.getElem_cons_zero, Act.put, List.setIfInBounds_toArray, List.set_cons_zero, List.set_cons_succ])
        refine wpAnyH_take (i := 1) (v := ?_) rfl (by kernel_rfl) (by kernel_rfl) (by kernel_rfl) (fun _ _ _ h => h) (Or.inl ⟨by rfl, ?_⟩) (by assumption) ?_; rotate_left; (intro w hSw; (try dsimp only at hSw); go_simp; (first | done | (with_reducible rfl))); (try simp only [List.getElem_toArray, List.getElem_cons_succ, List.getElem_cons_zero, Act.put, List.setIfInBounds_toArray, List.set_cons_zero, List.set_cons_succ])
        refine wpAnyH_take (i := 2) (v := ?_) rfl (by kernel_rfl) (by kernel_rfl) (by kernel_rfl) (fun _ _ _ h => h) (Or.inl ⟨by rfl, ?_⟩) (by assumption) ?_; rotate_left; (intro w hSw; (try dsimp only at hSw); go_simp; (first | done | (with_reducible rfl))); (try simp only [List.getElem_toArray, List.getElem_cons_succ, List.getElem_cons_zero, Act.put, List.setIfInBounds_toArray, List.set_cons_zero, List.set_cons_succ])
        refine wpAnyH_take (i := 3) (v := ?_) rfl (by kernel_rfl) (by kernel_rfl) (by kernel_rfl) (fun _ _ _ h => h) (Or.inl ⟨by rfl, ?_⟩) (by assumption) ?_; rotate_left; (intro w hSw; (try dsimp only at hSw); go_simp; (first | done | (with_reducible rfl))); (try simp only [List.getElem_toArray, List.getElem_cons_succ, List.getElem_cons_zero, Act.put, List.setIfInBounds_toArray, List.set_cons_zero, List.set_cons_succ])
        refine wpAnyH_ready (rs := [4]) (by kernel_rfl) (by simp) ?_; refine AllReadyH.cons rfl (fun KK hKK => ?_) AllReadyH.nil
        go_simp
        refine HN4.out.mono ?_
        rintro e w9 ⟨hgr9, ⟨kl, r9, A9, c9, h4, rfl, hF9⟩ | ⟨h4, rfl⟩⟩
        · have H4 := Lib.hid h4
          have hkl8 : kl ≤ 8 := (numR_some h4).2.1
          have hg9 := (hgr9.block (w.heap.size + 1) (by omega) (by intro he; injection he with he; omega)).trans hgD
          have hr9 := (hgr9.block w.heap.size (by omega) (by intro he; injection he with he; omega)).trans hrD
          have HT9 := Lib.hid (HTD.out.trans (Two.of1 hgr9))
          have hz9 := hgr9.size
          clear h4 HN4 hFD hgD hrD
          go_wp2_with fail
          refine hKK.out _ _ trivial (fun _ => ?_)
          clear hKK KK
          (try simp only [List.getElem_toArray, List.getElem_cons_succ, List.getElem_cons_zero, Act.put, List.setIfInBounds_toArray, List.set_cons_zero, List.set_cons_succ])
          by_cases hlen : r9.length < kl
          · have HT10 := Lib.hid (ftake_bad (kl : Int) hF9 (by omega))
            have hon : Hid (o = none) := by
              show o = none
              rw [← HO.out]; unfold readC; rw [H1.out, Option.bind_some, H2.out, Option.bind_some, H3.out, Option.bind_some, H4.out, Option.bind_some, if_pos hlen]
            clear hlen
            refine wpAnyH_ready (rs := [5]) (by kernel_rfl) (by simp) ?_; refine AllReadyH.cons rfl (fun KK hKK => ?_) AllReadyH.nil
            go_simp
            refine HT10.out.mono ?_
            rintro e w10 ⟨rfl, rfl⟩
            go_wp2_with fail
            exact ⟨rfl, two_grown HB3.out HT9.out, .inr ⟨hon.out, rfl⟩⟩
          · have HL := Lib.hid (show ¬ r9.length < kl from hlen)
            have HT10 := Lib.hid (ftake_good kl hF9 (by omega))
            have hatk := hF9.at'.take kl
            rw [bys_take] at hatk
            have hfar9 := hF9.far
            have hlk : (r9.take kl).length = kl := by simp; omega
            have HKEY : Hid (str (r9.take kl) = str (r9.take kl)) := rfl
            clear hlen
            refine wpAnyH_ready (rs := [5]) (by kernel_rfl) (by simp) ?_; refine AllReadyH.cons rfl (fun KK hKK => ?_) AllReadyH.nil
            go_simp
            refine HT10.out.mono ?_
            rintro e w10 ⟨rfl, hF10, hgr10⟩
            have hatk10 := hatk.grown' hgr10 (fun b off he hh => by injection hh with hh; have := hfar9 b off he; omega)
            have hg10 := (hgr10.block (w.heap.size + 1) (by omega) (by intro he; injection he with he; omega)).trans hg9
            have hr10 := (hgr10.block w.heap.size (by omega) (by intro he; injection he with he; omega)).trans hr9
            have HT10' := Lib.hid (HT9.out.trans (Two.of1 hgr10))
            have hz10 := hgr10.size
            have hcv := conv_str (P := Try.prog) w10 28 9 5 Try.underlying28 Try.underlying5 Try.underlying9 (c := kl) hatk10 (n := kl) hlk.symm
            clear hF9 hg9 hr9 hatk hatk10 hfar9 HT10 hgr10
            go_wp2_with fail
            refine hKK.out _ _ trivial (fun _ => ?_)
            clear hKK KK
            (try simp only [List.getElem_toArray, List.getElem_cons_succ, List.getElem_cons_zero, Act.put, List.setIfInBounds_toArray, List.set_cons_zero, List.set_cons_succ])
            refine wpAnyH_ready (rs := [6]) (by kernel_rfl) (by simp) ?_; refine AllReadyH.cons rfl (fun KK hKK => ?_) AllReadyH.nil
            go_simp
            go_wp2_with fail
            refine hKK.out _ _ trivial (fun _ => ?_)
            clear hKK KK hcv
            (try simp only [List.getElem_toArray, List.getElem_cons_succ, List.getElem_cons_zero, Act.put, List.setIfInBounds_toArray, List.set_cons_zero, List.set_cons_succ])
            have hc10 := cell_of_row _ _ 2 _ _ (0, 0) hg10
            have hf10 := frozen_of_row _ _ 2 _ _ hg10
            simp only [List.getElem?_toArray, List.getElem?_cons_succ, List.getElem?_cons_zero] at hc10
            refine wpAnyH_take (i := 7) (v := ?_) rfl (by kernel_rfl) (by kernel_rfl) (by kernel_rfl) (fun _ _ _ h => h) (Or.inl ⟨by rfl, ?_⟩) (by assumption) ?_; rotate_left; (intro w hSw; (try dsimp only at hSw); go_simp; (first | done | (with_reducible rfl))); (try simp only [List.getElem_toArray, List.getElem_cons_succ, List.getElem_cons_zero, Act.put, List.setIfInBounds_toArray, List.set_cons_zero, List.set_cons_succ])
            refine wpAnyH_ready (rs := [8]) (by kernel_rfl) (by simp) ?_; refine AllReadyH.cons rfl (fun KK hKK => ?_) AllReadyH.nil
            go_simp
            go_wp2_with fail
            refine hKK.out _ _ trivial (fun _ => ?_)
            clear hKK KK
            (try simp only [List.getElem_toArray, List.getElem_cons_succ, List.getElem_cons_zero, Act.put, List.setIfInBounds_toArray, List.set_cons_zero, List.set_cons_succ])
            refine wpAnyH_done (by kernel_rfl) ?_ _
            obtain ⟨c1, hc1⟩ : ∃ c1 : Cm, c1 = Cm.mk (a0 : Int) (a1 : Int) (str (r9.take kl)) (a2 : Int) (a3 : Int) (a4 : Int) (a5 : Int) (a6 : Int) (s : Int) (k0 : Int) (k1 : Int) := ⟨_, rfl⟩
            have hset11 := heap_setCell_same w10 (w.heap.size + 1) 2 _ _ (.string (str (r9.take kl))) hg10
            have hg11 : (w10.setCell ⟨w.heap.size + 1, 2, none⟩ (.string (str (r9.take kl)))).heap[w.heap.size + 1]? = some (.cells #[.int .i64 c1.id, .int .i64 c1.kind, .string c1.key, .int .i64 c1.blob, .int .i64 c1.other, .int .i64 c1.index, .int .i64 c1.node, .int .i64 c1.size, .int .u32 c1.sum, .int .i64 c1.k, .int .i64 c1.m, .slice none 0 0] 27 (0, 0)) := by rw [hc1]; exact hset11
            have hF11 := hF10.other (o := 2) (v := .string (str (r9.take kl))) (by omega : pr < w.heap.size + 1)
            have HT11 := Lib.hid (HT10'.out.trans (Two.of2 (grown_set w10 (w.heap.size + 1) 2 (.string (str (r9.take kl))))))
            have HRD : Hid (o = (numR 255 (r9.drop kl)).bind fun e => (numsR 15 e.1 e.2).bind fun f => if mayC c1 (natsV f.1) = true then some ((c1, natsV f.1), f.2) else none) := by
              show o = _
              rw [← HO.out, hc1]
              unfold readC
              rw [H1.out, Option.bind_some, H2.out, Option.bind_some, H3.out, Option.bind_some, H4.out, Option.bind_some, if_neg HL.out]
              rfl
            have hz11 : (w10.setCell ⟨w.heap.size + 1, 2, none⟩ (.string (str (r9.take kl)))).heap.size = w10.heap.size := by simp
            have HSUM : Hid (c1.sum = (s : Int)) := by show c1.sum = _; rw [hc1]
            have HN5 := Lib.hid (fnum_calls (most := 255) hF11 (by decide))
            clear hset11 hg10 hr10 hc10 hf10 hF10 hlk HKEY
            go_wp2_with fail
            generalize w10.setCell ⟨w.heap.size + 1, 2, none⟩ (.string (str (r9.take kl))) = w11 at *
            clear hc1
            generalize r9.drop kl = r11 at *
            refine HN5.out.mono ?_
            rintro e w12 ⟨hgr12, ⟨nn, r12, A12, c12, h5, rfl, hF12⟩ | ⟨h5, rfl⟩⟩
            rotate_left
            · have hon : Hid (o = none) := by show o = none; rw [HRD.out, h5]; rfl
              go_wp2_with fail
              exact ⟨rfl, two_grown HB3.out (HT11.out.trans (Two.of1 hgr12)), .inr ⟨hon.out, rfl⟩⟩
            · have hnn : nn ≤ 255 := (numR_some h5).2.1
              have HRE : Hid (o = (numsR 15 nn r12).bind fun f => if mayC c1 (natsV f.1) = true then some ((c1, natsV f.1), f.2) else none) := by show o = _; rw [HRD.out, h5]; rfl
              have hg12 := (hgr12.block (w.heap.size + 1) (by omega) (by intro he; injection he with he; omega)).trans hg11
              have hT12 := HT11.out.trans (Two.of1 hgr12)
              have hz12 := hgr12.size
              clear h5 HN5 hF11 hg11 HRD
              go_wp2_with fail
              have hnil12 : w12.ownsRow w3.heap.size 3 1 (.slice none 0 0) 0 (ints (natsV [])) := World.ownsRow_nil _ _ _ _
              go_loopw [35] (fun s35 wr => ∃ (t : Nat) (ms : List Nat) (r : List B8) (A' : Option Addr) (c' : Nat) (P : Option Addr) (e' : Nat), t ≤ nn ∧ s35 = .int .i64 ((t : Nat) : Int) ∧ ms.length = t ∧ Hid (numsR 15 t r12 = some (ms, r)) ∧ FdAt wr pr A' c' r ∧ wr.heap[w.heap.size + 1]? = some (.cells #[.int .i64 c1.id, .int .i64 c1.kind, .string c1.key, .int .i64 c1.blob, .int .i64 c1.other, .int .i64 c1.index, .int .i64 c1.node, .int .i64 c1.size, .int .u32 c1.sum, .int .i64 c1.k, .int .i64 c1.m, .slice P t e'] 27 (0, 0)) ∧ wr.ownsRow w3.heap.size 3 1 (.slice P t e') t (ints (natsV ms)) ∧ Two w3 wr pr (w.heap.size + 1)) (fun s35 _ => nn - (intOf s35).toNat)
              case atStart => exact ⟨0, [], r12, A12, c12, none, 0, by omega, rfl, rfl, rfl, hF12, hg12, hnil12, hT12⟩
              case round =>
                obtain ⟨t, ms, r, A', c', P, e', ht, rfl, hms, HR, hF, hg, hown, hT⟩ := hrel
                rename World => w13
                clear hF12 hg12 hnil12 hT12
                by_cases htn : t < nn
                · have hti : (t : Int) < (nn : Int) := by omega
                  go_wp2_with fail
                  have hD : Below w13.heap.size w13 w13.drew := (belowN 1 : Below w13.heap.size w13 (w13.drewN 1))
                  have hFD := hF.below hD
                  have hzz := hT.size
                  have hgD := (hD.block (w.heap.size + 1) (by omega)).trans hg
                  have hownD := own_below hown hD
                  have hTD := hT.below (hD.mono hzz)
                  have hzD : w3.heap.size ≤ w13.drew.heap.size := Nat.le_trans hzz hD.size
                  refine wp_region_held_drew (S := fun _ => True) (by kernel_rfl) trivial (fun _ => ?_)
                  generalize w13.drew = WE at *
                  clear hD hF hg hown hT
                  have HN6 := Lib.hid (fnum_calls (most := 15) hFD (by decide))
                  have hcE := cell_of_row _ _ 11 _ _ (0, 0) hgD
                  simp only [List.getElem?_toArray, List.getElem?_cons_succ, List.getElem?_cons_zero] at hcE
                  refine wpAnyH_take (i := 0) (v := ?_) rfl (by kernel_rfl) (by kernel_rfl) (by kernel_rfl) (fun _ _ _ h => h) (Or.inl ⟨by rfl, ?_⟩) (by assumption) ?_; rotate_left; (intro w hSw; (try dsimp only at hSw); go_simp; (first | done | (with_reducible rfl))); (try simp only [List.getElem_toArray, List.getElem_cons_succ, List.getElem_cons_zero, Act.put, List.setIfInBounds_toArray, List.set_cons_zero, List.set_cons_succ])
                  refine wpAnyH_take (i := 2) (v := ?_) rfl (by kernel_rfl) (by kernel_rfl) (by kernel_rfl) (fun _ _ _ h => h) (Or.inl ⟨by rfl, ?_⟩) (by assumption) ?_; rotate_left; (intro w hSw; (try dsimp only at hSw); go_simp; (first | done | (with_reducible rfl))); (try simp only [List.getElem_toArray, List.getElem_cons_succ, List.getElem_cons_zero, Act.put, List.setIfInBounds_toArray, List.set_cons_zero, List.set_cons_succ])
                  refine wpAnyH_ready (rs := [1, 3]) (by kernel_rfl) (by simp) ?_
                  refine AllReadyH.cons rfl (fun KK hKK => ?_) (AllReadyH.cons rfl (fun KK hKK => ?_) AllReadyH.nil)
                  · go_simp
                    go_wp2_with fail
                    focus
                      refine hKK.out _ _ trivial (fun _ => ?_)
                      clear hKK KK
                      (try simp only [List.getElem_toArray, List.getElem_cons_succ, List.getElem_cons_zero, Act.put, List.setIfInBounds_toArray, List.set_cons_zero, List.set_cons_succ])
                      refine wpAnyH_ready (rs := [3]) (by kernel_rfl) (by simp) ?_; refine AllReadyH.cons rfl (fun KK hKK => ?_) AllReadyH.nil
                      go_simp
                      refine HN6.out.mono ?_
                      rintro e w14 ⟨hgr14, ⟨x, r14, A14, c14, h6, rfl, hF14⟩ | ⟨h6, rfl⟩⟩
                      · have hg14 := (hgr14.block (w.heap.size + 1) (by omega) (by intro he; injection he with he; omega)).trans hgD
                        have hT14 := hTD.trans (Two.of1 hgr14)
                        clear hFD hgD hTD HN6 hcE
                        go_wp2_with fail
                        refine hKK.out _ _ trivial (fun _ => ?_)
                        clear hKK KK
                        (try simp only [List.getElem_toArray, List.getElem_cons_succ, List.getElem_cons_zero, Act.put, List.setIfInBounds_toArray, List.set_cons_zero, List.set_cons_succ])
                        have HNL := Lib.hid h6
                        have hown14 : w14.ownsRow w3.heap.size 3 1 (.slice P t e') t (ints (natsV ms)) := own_keep hownD hgr14 (by omega)
                        have hz14 := Nat.le_trans hzD hgr14.size
                        have hbl := below1' w14 (.cells #[.int .i64 (x : Int)] 3)
                        have hlit : At (w14.alloc (.cells #[.int .i64 (x : Int)] 3)) (some ⟨w14.heap.size, 0, none⟩) (ints (natsV [x])) := at_new w14 #[.int .i64 (x : Int)] 3 (0, 0)
                        have hown15 := own_below hown14 hbl
                        have hg15 := (hbl.block (w.heap.size + 1) (by omega)).trans hg14
                        have hF15 := hF14.below hbl
                        have hT15 := (hT14.below (hbl.mono (by omega)))
                        have hz15 : w3.heap.size ≤ (w14.alloc (.cells #[.int .i64 (x : Int)] 3)).heap.size := by simp; omega
                        clear hownD hown14 hg14 hF14 hT14 hbl h6
                        refine wpAnyH_ready (rs := [4]) (by kernel_rfl) (by simp) ?_; refine AllReadyH.cons rfl (fun KK hKK => ?_) AllReadyH.nil
                        go_simp
                        go_wp2_with fail
                        refine hKK.out _ _ trivial (fun _ => ?_)
                        clear hKK KK
                        (try simp only [List.getElem_toArray, List.getElem_cons_succ, List.getElem_cons_zero, Act.put, List.setIfInBounds_toArray, List.set_cons_zero, List.set_cons_succ])
                        refine wpAnyH_ready (rs := [5]) (by kernel_rfl) (by simp) ?_; refine AllReadyH.cons rfl (fun KK hKK => ?_) AllReadyH.nil
                        refine step_app_ints rfl (.tmp 38) (.tmp 41) rfl w3.heap.size (v := .slice P t e') rfl hown15 rfl (news := natsV [x]) rfl hlit (by intro h; cases h) (by omega) hz15 ?_
                        intro A16 c16 w16 ho16 hb16
                        have hg16 := (hb16.block (w.heap.size + 1) (by omega)).trans hg15
                        have hc16 := cell_of_row _ _ 11 _ _ (0, 0) hg16
                        have hf16 := frozen_of_row _ _ 11 _ _ hg16
                        simp only [List.getElem?_toArray, List.getElem?_cons_succ, List.getElem?_cons_zero] at hc16
                        refine hKK.out _ _ trivial (fun _ => ?_)
                        clear hKK KK
                        (try simp only [List.getElem_toArray, List.getElem_cons_succ, List.getElem_cons_zero, Act.put, List.setIfInBounds_toArray, List.set_cons_zero, List.set_cons_succ])
                        refine wpAnyH_take (i := 6) (v := ?_) rfl (by kernel_rfl) (by kernel_rfl) (by kernel_rfl) (fun _ _ _ h => h) (Or.inl ⟨by rfl, ?_⟩) (by assumption) ?_; rotate_left; (intro w hSw; (try dsimp only at hSw); go_simp; (first | done | (with_reducible rfl))); (try simp only [List.getElem_toArray, List.getElem_cons_succ, List.getElem_cons_zero, Act.put, List.setIfInBounds_toArray, List.set_cons_zero, List.set_cons_succ])
                        refine wpAnyH_ready (rs := [7]) (by kernel_rfl) (by simp) ?_; refine AllReadyH.cons rfl (fun KK hKK => ?_) AllReadyH.nil
                        go_simp
                        go_wp2_with fail
                        refine hKK.out _ _ trivial (fun _ => ?_)
                        clear hKK KK
                        (try simp only [List.getElem_toArray, List.getElem_cons_succ, List.getElem_cons_zero, Act.put, List.setIfInBounds_toArray, List.set_cons_zero, List.set_cons_succ])
                        refine wpAnyH_done (by kernel_rfl) ?_ _
                        go_wp2_with fail
                        have hsetF := heap_setCell_same w16 (w.heap.size + 1) 11 _ _ (.slice A16 (t + 1) c16) hg16
                        have hFF := (hF15.belowB hb16 (by omega)).other (o := 11) (v := .slice A16 (t + 1) c16) (by omega : pr < w.heap.size + 1)
                        have hoF := ownsRow_setCell_below ho16 (show w.heap.size + 1 < w3.heap.size by omega) (.slice A16 (t + 1) c16) (a := ⟨w.heap.size + 1, 11, none⟩)
                        have hTF := (hT15.below hb16).trans (Two.of2 (p := pr) (grown_set w16 (w.heap.size + 1) 11 (.slice A16 (t + 1) c16)))
                        have hnv : natsV ms ++ natsV [x] = natsV (ms ++ [x]) := by simp [natsV]
                        rw [hnv] at hoF
                        have HR2 : Hid (numsR 15 (t + 1) r12 = some (ms ++ [x], r14)) := by
                          show numsR 15 (t + 1) r12 = _
                          rw [numsR, HR.out, Option.bind_some, HNL.out]; rfl
                        exact ⟨⟨t + 1, ms ++ [x], r14, A14, c14, A16, c16, by omega, by go_num, by simp [hms], HR2, hFF, hsetF, hoF, hTF⟩, by simp [intOf]; omega⟩
                      · skip
                        have hon : Hid (o = none) := by
                          show o = none
                          rw [HRE.out, numsR_none (t := t + 1) (k := nn) (by omega) (by rw [numsR, HR.out, Option.bind_some, h6]; rfl)]; rfl
                        go_wp2_with fail
                        exact ⟨rfl, two_grown HB3.out (hTD.trans (Two.of1 hgr14)), .inr ⟨hon.out, rfl⟩⟩
                  · go_simp
                    refine HN6.out.mono ?_
                    rintro e w14 ⟨hgr14, ⟨x, r14, A14, c14, h6, rfl, hF14⟩ | ⟨h6, rfl⟩⟩
                    · skip
                      have hg14 := (hgr14.block (w.heap.size + 1) (by omega) (by intro he; injection he with he; omega)).trans hgD
                      have hc14 := cell_of_row _ _ 11 _ _ (0, 0) hg14
                      simp only [List.getElem?_toArray, List.getElem?_cons_succ, List.getElem?_cons_zero] at hc14
                      have hT14 := hTD.trans (Two.of1 hgr14)
                      clear hFD hgD hTD HN6 hcE
                      go_wp2_with fail
                      refine hKK.out _ _ trivial (fun _ => ?_)
                      clear hKK KK
                      (try simp only [List.getElem_toArray, List.getElem_cons_succ, List.getElem_cons_zero, Act.put, List.setIfInBounds_toArray, List.set_cons_zero, List.set_cons_succ])
                      have HNL := Lib.hid h6
                      have hown14 : w14.ownsRow w3.heap.size 3 1 (.slice P t e') t (ints (natsV ms)) := own_keep hownD hgr14 (by omega)
                      have hz14 := Nat.le_trans hzD hgr14.size
                      have hbl := below1' w14 (.cells #[.int .i64 (x : Int)] 3)
                      have hlit : At (w14.alloc (.cells #[.int .i64 (x : Int)] 3)) (some ⟨w14.heap.size, 0, none⟩) (ints (natsV [x])) := at_new w14 #[.int .i64 (x : Int)] 3 (0, 0)
                      have hown15 := own_below hown14 hbl
                      have hg15 := (hbl.block (w.heap.size + 1) (by omega)).trans hg14
                      have hF15 := hF14.below hbl
                      have hT15 := (hT14.below (hbl.mono (by omega)))
                      have hz15 : w3.heap.size ≤ (w14.alloc (.cells #[.int .i64 (x : Int)] 3)).heap.size := by simp; omega
                      clear hownD hown14 hg14 hF14 hT14 hbl h6
                      have hc15 := cell_of_row _ _ 11 _ _ (0, 0) hg15
                      simp only [List.getElem?_toArray, List.getElem?_cons_succ, List.getElem?_cons_zero] at hc15
                      refine wpAnyH_ready (rs := [1, 4]) (by kernel_rfl) (by simp) ?_
                      refine AllReadyH.cons rfl (fun KK hKK => ?_) (AllReadyH.cons rfl (fun KK hKK => ?_) AllReadyH.nil)
                      · skip
                        go_simp
                        go_wp2_with fail
                        refine hKK.out _ _ trivial (fun _ => ?_)
                        clear hKK KK
                        (try simp only [List.getElem_toArray, List.getElem_cons_succ, List.getElem_cons_zero, Act.put, List.setIfInBounds_toArray, List.set_cons_zero, List.set_cons_succ])
                        refine wpAnyH_ready (rs := [4]) (by kernel_rfl) (by simp) ?_; refine AllReadyH.cons rfl (fun KK hKK => ?_) AllReadyH.nil
                        go_simp
                        go_wp2_with fail
                        refine hKK.out _ _ trivial (fun _ => ?_)
                        clear hKK KK
                        (try simp only [List.getElem_toArray, List.getElem_cons_succ, List.getElem_cons_zero, Act.put, List.setIfInBounds_toArray, List.set_cons_zero, List.set_cons_succ])
                        refine wpAnyH_ready (rs := [5]) (by kernel_rfl) (by simp) ?_; refine AllReadyH.cons rfl (fun KK hKK => ?_) AllReadyH.nil
                        refine step_app_ints rfl (.tmp 38) (.tmp 41) rfl w3.heap.size (v := .slice P t e') rfl hown15 rfl (news := natsV [x]) rfl hlit (by intro h; cases h) (by omega) hz15 ?_
                        intro A16 c16 w16 ho16 hb16
                        have hg16 := (hb16.block (w.heap.size + 1) (by omega)).trans hg15
                        have hc16 := cell_of_row _ _ 11 _ _ (0, 0) hg16
                        have hf16 := frozen_of_row _ _ 11 _ _ hg16
                        simp only [List.getElem?_toArray, List.getElem?_cons_succ, List.getElem?_cons_zero] at hc16
                        refine hKK.out _ _ trivial (fun _ => ?_)
                        clear hKK KK
                        (try simp only [List.getElem_toArray, List.getElem_cons_succ, List.getElem_cons_zero, Act.put, List.setIfInBounds_toArray, List.set_cons_zero, List.set_cons_succ])
                        refine wpAnyH_take (i := 6) (v := ?_) rfl (by kernel_rfl) (by kernel_rfl) (by kernel_rfl) (fun _ _ _ h => h) (Or.inl ⟨by rfl, ?_⟩) (by assumption) ?_; rotate_left; (intro w hSw; (try dsimp only at hSw); go_simp; (first | done | (with_reducible rfl))); (try simp only [List.getElem_toArray, List.getElem_cons_succ, List.getElem_cons_zero, Act.put, List.setIfInBounds_toArray, List.set_cons_zero, List.set_cons_succ])
                        refine wpAnyH_ready (rs := [7]) (by kernel_rfl) (by simp) ?_; refine AllReadyH.cons rfl (fun KK hKK => ?_) AllReadyH.nil
                        go_simp
                        go_wp2_with fail
                        refine hKK.out _ _ trivial (fun _ => ?_)
                        clear hKK KK
                        (try simp only [List.getElem_toArray, List.getElem_cons_succ, List.getElem_cons_zero, Act.put, List.setIfInBounds_toArray, List.set_cons_zero, List.set_cons_succ])
                        refine wpAnyH_done (by kernel_rfl) ?_ _
                        go_wp2_with fail
                        have hsetF := heap_setCell_same w16 (w.heap.size + 1) 11 _ _ (.slice A16 (t + 1) c16) hg16
                        have hFF := (hF15.belowB hb16 (by omega)).other (o := 11) (v := .slice A16 (t + 1) c16) (by omega : pr < w.heap.size + 1)
                        have hoF := ownsRow_setCell_below ho16 (show w.heap.size + 1 < w3.heap.size by omega) (.slice A16 (t + 1) c16) (a := ⟨w.heap.size + 1, 11, none⟩)
                        have hTF := (hT15.below hb16).trans (Two.of2 (p := pr) (grown_set w16 (w.heap.size + 1) 11 (.slice A16 (t + 1) c16)))
                        have hnv : natsV ms ++ natsV [x] = natsV (ms ++ [x]) := by simp [natsV]
                        rw [hnv] at hoF
                        have HR2 : Hid (numsR 15 (t + 1) r12 = some (ms ++ [x], r14)) := by
                          show numsR 15 (t + 1) r12 = _
                          rw [numsR, HR.out, Option.bind_some, HNL.out]; rfl
                        exact ⟨⟨t + 1, ms ++ [x], r14, A14, c14, A16, c16, by omega, by go_num, by simp [hms], HR2, hFF, hsetF, hoF, hTF⟩, by simp [intOf]; omega⟩
                      · skip
                        go_simp
                        go_wp2_with fail
                        refine hKK.out _ _ trivial (fun _ => ?_)
                        clear hKK KK
                        (try simp only [List.getElem_toArray, List.getElem_cons_succ, List.getElem_cons_zero, Act.put, List.setIfInBounds_toArray, List.set_cons_zero, List.set_cons_succ])
                        refine wpAnyH_ready (rs := [1]) (by kernel_rfl) (by simp) ?_; refine AllReadyH.cons rfl (fun KK hKK => ?_) AllReadyH.nil
                        go_simp
                        go_wp2_with fail
                        refine hKK.out _ _ trivial (fun _ => ?_)
                        clear hKK KK
                        (try simp only [List.getElem_toArray, List.getElem_cons_succ, List.getElem_cons_zero, Act.put, List.setIfInBounds_toArray, List.set_cons_zero, List.set_cons_succ])
                        refine wpAnyH_ready (rs := [5]) (by kernel_rfl) (by simp) ?_; refine AllReadyH.cons rfl (fun KK hKK => ?_) AllReadyH.nil
                        refine step_app_ints rfl (.tmp 38) (.tmp 41) rfl w3.heap.size (v := .slice P t e') rfl hown15 rfl (news := natsV [x]) rfl hlit (by intro h; cases h) (by omega) hz15 ?_
                        intro A16 c16 w16 ho16 hb16
                        have hg16 := (hb16.block (w.heap.size + 1) (by omega)).trans hg15
                        have hc16 := cell_of_row _ _ 11 _ _ (0, 0) hg16
                        have hf16 := frozen_of_row _ _ 11 _ _ hg16
                        simp only [List.getElem?_toArray, List.getElem?_cons_succ, List.getElem?_cons_zero] at hc16
                        refine hKK.out _ _ trivial (fun _ => ?_)
                        clear hKK KK
                        (try simp only [List.getElem_toArray, List.getElem_cons_succ, List.getElem_cons_zero, Act.put, List.setIfInBounds_toArray, List.set_cons_zero, List.set_cons_succ])
                        refine wpAnyH_take (i := 6) (v := ?_) rfl (by kernel_rfl) (by kernel_rfl) (by kernel_rfl) (fun _ _ _ h => h) (Or.inl ⟨by rfl, ?_⟩) (by assumption) ?_; rotate_left; (intro w hSw; (try dsimp only at hSw); go_simp; (first | done | (with_reducible rfl))); (try simp only [List.getElem_toArray, List.getElem_cons_succ, List.getElem_cons_zero, Act.put, List.setIfInBounds_toArray, List.set_cons_zero, List.set_cons_succ])
                        refine wpAnyH_ready (rs := [7]) (by kernel_rfl) (by simp) ?_; refine AllReadyH.cons rfl (fun KK hKK => ?_) AllReadyH.nil
                        go_simp
                        go_wp2_with fail
                        refine hKK.out _ _ trivial (fun _ => ?_)
                        clear hKK KK
                        (try simp only [List.getElem_toArray, List.getElem_cons_succ, List.getElem_cons_zero, Act.put, List.setIfInBounds_toArray, List.set_cons_zero, List.set_cons_succ])
                        refine wpAnyH_done (by kernel_rfl) ?_ _
                        go_wp2_with fail
                        have hsetF := heap_setCell_same w16 (w.heap.size + 1) 11 _ _ (.slice A16 (t + 1) c16) hg16
                        have hFF := (hF15.belowB hb16 (by omega)).other (o := 11) (v := .slice A16 (t + 1) c16) (by omega : pr < w.heap.size + 1)
                        have hoF := ownsRow_setCell_below ho16 (show w.heap.size + 1 < w3.heap.size by omega) (.slice A16 (t + 1) c16) (a := ⟨w.heap.size + 1, 11, none⟩)
                        have hTF := (hT15.below hb16).trans (Two.of2 (p := pr) (grown_set w16 (w.heap.size + 1) 11 (.slice A16 (t + 1) c16)))
                        have hnv : natsV ms ++ natsV [x] = natsV (ms ++ [x]) := by simp [natsV]
                        rw [hnv] at hoF
                        have HR2 : Hid (numsR 15 (t + 1) r12 = some (ms ++ [x], r14)) := by
                          show numsR 15 (t + 1) r12 = _
                          rw [numsR, HR.out, Option.bind_some, HNL.out]; rfl
                        exact ⟨⟨t + 1, ms ++ [x], r14, A14, c14, A16, c16, by omega, by go_num, by simp [hms], HR2, hFF, hsetF, hoF, hTF⟩, by simp [intOf]; omega⟩
                    · skip
                      have hon : Hid (o = none) := by
                        show o = none
                        rw [HRE.out, numsR_none (t := t + 1) (k := nn) (by omega) (by rw [numsR, HR.out, Option.bind_some, h6]; rfl)]; rfl
                      go_wp2_with fail
                      exact ⟨rfl, two_grown HB3.out (hTD.trans (Two.of1 hgr14)), .inr ⟨hon.out, rfl⟩⟩
                · obtain rfl : nn = t := by omega
                  clear H1 H2 H3 H4 HT4 HT6 HT7 HT8 HTD HT9 HT10' HT11 HL HO
                  have hnv : (natsV ms).length = ms.length := by simp
                  have HMC := Lib.hid (mayCmd_calls (w := w13) c1 (n := nn) (d := e') (own_at hown) (by rw [hnv, hms]) (by omega))
                  have HRF : Hid (o = if mayC c1 (natsV ms) = true then some ((c1, natsV ms), r) else none) := by show o = _; rw [HRE.out, HR.out]; rfl
                  generalize mayC c1 (natsV ms) = may at *
                  have e := cells_of hg
                  obtain ⟨e0, e1, e2, e3, e4, e5, e6, e7, e8, e9, e10, e11⟩ := e
                  clear hnv
                  go_wp2_with fail
                  refine HMC.out.mono ?_
                  rintro e w17 ⟨rfl, hb17⟩
                  cases may with
                  | false =>
                    have hon : Hid (o = none) := by show o = none; rw [HRF.out]; rfl
                    have hT17 := hT.below (hb17.mono hT.size)
                    clear e0 e1 e2 e3 e4 e5 e6 e7 e8 e9 e10 e11
                    go_wp2_with fail
                    exact ⟨rfl, two_grown HB3.out hT17, .inr ⟨hon.out, rfl⟩⟩
                  | true =>
                    have hlt13 := hT.size
                    have hr17 := (hb17.block w.heap.size (by omega)).trans ((hT.block w.heap.size (by omega) (by omega) (by omega)).trans HR0.out)
                    have hg17 := (hb17.block (w.heap.size + 1) (by omega)).trans hg
                    clear e0 e1 e2 e3 e4 e5 e6 e7 e8 e9 e10 e11 HMC
                    have e := cells_of hg17
                    obtain ⟨e0, e1, e2, e3, e4, e5, e6, e7, e8, e9, e10, e11⟩ := e
                    have z := cells_of (c := zeroC) (v := .slice none 0 0) hr17
                    simp only [zeroC] at z
                    obtain ⟨z0, z1, z2, z3, z4, z5, z6, z7, z8, z9, z10, z11⟩ := z
                    have hfz := fun o => frozen_of_row w17 w.heap.size o _ _ hr17
                    go_wp2_with fail
                    have hrow := putAll_full (vs := #[.int .i64 c1.id, .int .i64 c1.kind, .string c1.key, .int .i64 c1.blob, .int .i64 c1.other, .int .i64 c1.index, .int .i64 c1.node, .int .i64 c1.size, .int .u32 c1.sum, .int .i64 c1.k, .int .i64 c1.m, .slice P nn e'].toList) hr17 rfl
                    have hnl : (natsV ms).length = nn := by rw [length_natsV, hms]
                    have hT17 := hT.below (hb17.mono hT.size)
                    have hgw := two_grown HB3.out hT17
                    have hbF := putAll_below (Nat.le_refl _) #[.int .i64 c1.id, .int .i64 c1.kind, .string c1.key, .int .i64 c1.blob, .int .i64 c1.other, .int .i64 c1.index, .int .i64 c1.node, .int .i64 c1.size, .int .u32 c1.sum, .int .i64 c1.k, .int .i64 c1.m, .slice P nn e'].toList w17 0 (Below.refl w.heap.size w17)
                    have hoF := putAll_owns (g := w.heap.size) (by omega) #[.int .i64 c1.id, .int .i64 c1.kind, .string c1.key, .int .i64 c1.blob, .int .i64 c1.other, .int .i64 c1.index, .int .i64 c1.node, .int .i64 c1.size, .int .u32 c1.sum, .int .i64 c1.k, .int .i64 c1.m, .slice P nn e'].toList w17 0 (own_below hown hb17)
                    refine bodyPost_ret (results_cell_row rfl _ _ w.heap.size 27 #[.int .i64 c1.id, .int .i64 c1.kind, .string c1.key, .int .i64 c1.blob, .int .i64 c1.other, .int .i64 c1.index, .int .i64 c1.node, .int .i64 c1.size, .int .u32 c1.sum, .int .i64 c1.k, .int .i64 c1.m, .slice P nn e'] (0, 0) _ rfl hrow Try.underlying27 rfl (by kernel_rfl)) rfl ?_
                    refine ⟨⟨hbF.os.trans hgw.os, hbF.tape.trans hgw.tape, hbF.output.trans hgw.output, Nat.le_trans hgw.size hbF.size, fun k hk hne => (hbF.block k hk).trans (hgw.block k hk hne)⟩, .inl ⟨c1, natsV ms, r, A', c', P, e', by rw [HRF.out]; rfl, by rw [hnl]; rfl, (hF.below hb17).belowB hbF hpr, by rw [hnl]; exact own_lower hoF (by omega)⟩⟩
        · have hon : Hid (o = none) := by
            show o = none
            rw [← HO.out]; unfold readC; rw [H1.out, Option.bind_some, H2.out, Option.bind_some, H3.out, Option.bind_some, show numR 8 r8 = none from h4]; rfl
          go_wp2_with fail
          exact ⟨rfl, two_grown HB3.out (HTD.out.trans (Two.of1 hgr9)), .inr ⟨hon.out, rfl⟩⟩
    · have hon : Hid (o = none) := by
        show o = none
        rw [← HO.out]; unfold readC; rw [H1.out, Option.bind_some, show numR 4294967295 r4 = none from h2]; rfl
      go_wp2_with fail
      exact ⟨rfl, two_grown HB3.out (HT4.out.trans (Two.of1 hgr5)), .inr ⟨hon.out, rfl⟩⟩

end Go.Proofs.Ytfcacplecapgfaa
