/- Contract: frame's reader: msg. -/
import Derived.Test.YtfcacplecapgfaaG8
namespace Go.Proofs.Ytfcacplecapgfaa
open Go.RowKit
set_option linter.unusedVariables false
set_option linter.unusedSimpArgs false

theorem any3_boxes (w : World) (o1 o2 o3 : Obj) : ∃ w3, w3 = ((w.alloc o1).alloc o2).alloc o3 ∧ Below w.heap.size w w3 ∧ w3.heap[w.heap.size]? = some o1 ∧ w3.heap[w.heap.size + 1]? = some o2 ∧ w3.heap[w.heap.size + 1 + 1]? = some o3 ∧ w3.heap.size = w.heap.size + 3 := by
  refine ⟨_, rfl, ?_⟩
  have hb1 := below1' w o1
  have h1 : (w.alloc o1).heap[w.heap.size]? = some o1 := heap_alloc_new w _
  have hs1 : (w.alloc o1).heap.size = w.heap.size + 1 := by simp
  generalize w.alloc o1 = wa at *
  have hb2 := below1' wa o2
  have h2 : (wa.alloc o2).heap[wa.heap.size]? = some o2 := heap_alloc_new wa _
  have hs2 : (wa.alloc o2).heap.size = w.heap.size + 1 + 1 := by simp; omega
  rw [hs1] at h2
  have h12 := (hb2.block w.heap.size (by omega)).trans h1
  generalize wa.alloc o2 = wb at *
  have hb3 := below1' wb o3
  have h3 : (wb.alloc o3).heap[wb.heap.size]? = some o3 := heap_alloc_new wb _
  have hs3 : (wb.alloc o3).heap.size = w.heap.size + 1 + 1 + 1 := by simp; omega
  rw [hs2] at h3
  exact ⟨(hb1.trans (hb2.mono (by omega))).trans (hb3.mono (by omega)), (hb3.block w.heap.size (by omega)).trans h12, (hb3.block (w.heap.size + 1) (by omega)).trans h2, h3, hs3⟩
theorem at_cells {w : World} {g : Nat} {cs : Array Value} {t : TypeId} {fr : Nat × Nat} (h : w.heap[g]? = some (.cells cs t fr)) : At w (some ⟨g, 0, none⟩) cs.toList := by
  intro i x hx
  refine ⟨g, 0, rfl, ?_⟩
  rw [cell_of_row w g (0 + i) cs t fr h, Nat.zero_add]
  simpa using hx
theorem any2s (w : World) (o1 o2 : Obj) : ∃ w3, w3 = (w.alloc o1).alloc o2 ∧ Below w.heap.size w w3 ∧ w3.heap[w.heap.size]? = some o1 ∧ w3.heap[w.heap.size + 1]? = some o2 ∧ w3.heap.size = w.heap.size + 2 := by
  refine ⟨_, rfl, ?_⟩
  have hb1 := below1' w o1
  have h1 : (w.alloc o1).heap[w.heap.size]? = some o1 := heap_alloc_new w _
  have hs1 : (w.alloc o1).heap.size = w.heap.size + 1 := by simp
  generalize w.alloc o1 = wa at *
  have hb2 := below1' wa o2
  have h2 : (wa.alloc o2).heap[wa.heap.size]? = some o2 := heap_alloc_new wa _
  have hs2 : (wa.alloc o2).heap.size = w.heap.size + 1 + 1 := by simp; omega
  rw [hs1] at h2
  exact ⟨hb1.trans (hb2.mono (by omega)), (hb2.block w.heap.size (by omega)).trans h1, h2, hs2⟩
theorem vote_put (s b : Int) (c d : Cm) (v u : Value) : (#[.int .i64 s, .int .i64 b, .int .i64 d.id, .int .i64 d.kind, .string d.key, .int .i64 d.blob, .int .i64 d.other, .int .i64 d.index, .int .i64 d.node, .int .i64 d.size, .int .u32 d.sum, .int .i64 d.k, .int .i64 d.m, u] : Array Value).toList.take 2 ++ [.int .i64 c.id, .int .i64 c.kind, .string c.key, .int .i64 c.blob, .int .i64 c.other, .int .i64 c.index, .int .i64 c.node, .int .i64 c.size, .int .u32 c.sum, .int .i64 c.k, .int .i64 c.m, v] ++ (#[.int .i64 s, .int .i64 b, .int .i64 d.id, .int .i64 d.kind, .string d.key, .int .i64 d.blob, .int .i64 d.other, .int .i64 d.index, .int .i64 d.node, .int .i64 d.size, .int .u32 d.sum, .int .i64 d.k, .int .i64 d.m, u] : Array Value).toList.drop (2 + 12) = (#[.int .i64 s, .int .i64 b, .int .i64 c.id, .int .i64 c.kind, .string c.key, .int .i64 c.blob, .int .i64 c.other, .int .i64 c.index, .int .i64 c.node, .int .i64 c.size, .int .u32 c.sum, .int .i64 c.k, .int .i64 c.m, v] : Array Value).toList := rfl
def Mh.withC (m : Mh) (c : Cm) : Mh := { m with cmd := c }
theorem msg_put (m : Mh) (c : Cm) (v b d u : Value) : (#[.int .i64 m.kind, .int .i64 m.frm, .int .i64 m.to, .int .i64 m.ballot, .int .i64 m.slot, .int .i64 m.blob, .int .i64 m.index, .int .i64 m.epoch, .int .i64 m.id, .bool m.ok, .int .i64 m.cmd.id, .int .i64 m.cmd.kind, .string m.cmd.key, .int .i64 m.cmd.blob, .int .i64 m.cmd.other, .int .i64 m.cmd.index, .int .i64 m.cmd.node, .int .i64 m.cmd.size, .int .u32 m.cmd.sum, .int .i64 m.cmd.k, .int .i64 m.cmd.m, u, b, d] : Array Value).toList.take 10 ++ [.int .i64 c.id, .int .i64 c.kind, .string c.key, .int .i64 c.blob, .int .i64 c.other, .int .i64 c.index, .int .i64 c.node, .int .i64 c.size, .int .u32 c.sum, .int .i64 c.k, .int .i64 c.m, v] ++ (#[.int .i64 m.kind, .int .i64 m.frm, .int .i64 m.to, .int .i64 m.ballot, .int .i64 m.slot, .int .i64 m.blob, .int .i64 m.index, .int .i64 m.epoch, .int .i64 m.id, .bool m.ok, .int .i64 m.cmd.id, .int .i64 m.cmd.kind, .string m.cmd.key, .int .i64 m.cmd.blob, .int .i64 m.cmd.other, .int .i64 m.cmd.index, .int .i64 m.cmd.node, .int .i64 m.cmd.size, .int .u32 m.cmd.sum, .int .i64 m.cmd.k, .int .i64 m.cmd.m, u, b, d] : Array Value).toList.drop (10 + 12) = (#[.int .i64 (Mh.withC m c).kind, .int .i64 (Mh.withC m c).frm, .int .i64 (Mh.withC m c).to, .int .i64 (Mh.withC m c).ballot, .int .i64 (Mh.withC m c).slot, .int .i64 (Mh.withC m c).blob, .int .i64 (Mh.withC m c).index, .int .i64 (Mh.withC m c).epoch, .int .i64 (Mh.withC m c).id, .bool (Mh.withC m c).ok, .int .i64 (Mh.withC m c).cmd.id, .int .i64 (Mh.withC m c).cmd.kind, .string (Mh.withC m c).cmd.key, .int .i64 (Mh.withC m c).cmd.blob, .int .i64 (Mh.withC m c).cmd.other, .int .i64 (Mh.withC m c).cmd.index, .int .i64 (Mh.withC m c).cmd.node, .int .i64 (Mh.withC m c).cmd.size, .int .u32 (Mh.withC m c).cmd.sum, .int .i64 (Mh.withC m c).cmd.k, .int .i64 (Mh.withC m c).cmd.m, v, b, d] : Array Value).toList := rfl
theorem len9 {α : Type} {l : List α} (h : l.length = 9) : ∃ a0 a1 a2 a3 a4 a5 a6 a7 a8, l = [a0, a1, a2, a3, a4, a5, a6, a7, a8] := by
  match l, h with
  | [a0, a1, a2, a3, a4, a5, a6, a7, a8], _ => exact ⟨a0, a1, a2, a3, a4, a5, a6, a7, a8, rfl⟩
/-- What a reader's msg leaves. -/
def FMsg (w : World) (pr : Nat) (o : Option (Mg × List B8)) (e : Ending) (w' : World) : Prop :=
  w.grownBy w' (some pr) ∧ ((∃ (m : Mg) (r : List B8) (A : Option Addr) (d : Nat) (P : Option Addr) (e' : Nat) (V : Option Addr) (ev : Nat) (X : Option Addr) (f : Nat), o = some (m, r) ∧ e = .returned (.agg #[.int .i64 m.h.kind, .int .i64 m.h.frm, .int .i64 m.h.to, .int .i64 m.h.ballot, .int .i64 m.h.slot, .int .i64 m.h.blob, .int .i64 m.h.index, .int .i64 m.h.epoch, .int .i64 m.h.id, .bool m.h.ok, .int .i64 m.h.cmd.id, .int .i64 m.h.cmd.kind, .string m.h.cmd.key, .int .i64 m.h.cmd.blob, .int .i64 m.h.cmd.other, .int .i64 m.h.cmd.index, .int .i64 m.h.cmd.node, .int .i64 m.h.cmd.size, .int .u32 m.h.cmd.sum, .int .i64 m.h.cmd.k, .int .i64 m.h.cmd.m, .slice P m.cn.length e', .slice V m.vs.length ev, .slice X m.bs.length f]) ∧ FdAt w' pr A d r ∧ MgOwn w' w.heap.size P e' V ev X f m) ∨ (o = none ∧ e = .panicked wrongCh))

set_option maxHeartbeats 16000000 in
set_option maxRecDepth 100000 in
theorem fmsgR_calls {w : World} {pr c : Nat} {A : Option Addr} {l : List B8} (h : FdAt w pr A c l) :
    Calls Try.prog 37 #[.pointer (some ⟨pr, 0, none⟩)] w (FMsg w pr (readM l)) := by
  have hpr : pr < w.heap.size := (Array.getElem?_eq_some_iff.1 h.hd).1
  generalize ho : readM l = o
  have HO := Lib.hid ho
  clear ho
  obtain ⟨w3, hw3, hB3, hr0, hrg, hrp, hz3⟩ := any3_boxes w (.cells #[.int .i64 0, .int .i64 0, .int .i64 0, .int .i64 0, .int .i64 0, .int .i64 0, .int .i64 0, .int .i64 0, .int .i64 0, .bool false, .int .i64 0, .int .i64 0, .string ⟨#[]⟩, .int .i64 0, .int .i64 0, .int .i64 0, .int .i64 0, .int .i64 0, .int .u32 0, .int .i64 0, .int .i64 0, .slice none 0 0, .slice none 0 0, .slice none 0 0] 40) (.cells #[.int .i64 0, .int .i64 0, .int .i64 0, .int .i64 0, .int .i64 0, .int .i64 0, .int .i64 0, .int .i64 0, .int .i64 0, .bool false, .int .i64 0, .int .i64 0, .string ⟨#[]⟩, .int .i64 0, .int .i64 0, .int .i64 0, .int .i64 0, .int .i64 0, .int .u32 0, .int .i64 0, .int .i64 0, .slice none 0 0, .slice none 0 0, .slice none 0 0] 40) (.cells #[.pointer (some ⟨w.heap.size + 1, 0, none⟩), .pointer (some ⟨w.heap.size + 1, 1, none⟩), .pointer (some ⟨w.heap.size + 1, 2, none⟩), .pointer (some ⟨w.heap.size + 1, 3, none⟩), .pointer (some ⟨w.heap.size + 1, 4, none⟩), .pointer (some ⟨w.heap.size + 1, 5, none⟩), .pointer (some ⟨w.heap.size + 1, 6, none⟩), .pointer (some ⟨w.heap.size + 1, 7, none⟩), .pointer (some ⟨w.heap.size + 1, 8, none⟩)] 92)
  have hat : At w3 (some ⟨w.heap.size + 1 + 1, 0, none⟩) (ptrs (w.heap.size + 1) [0, 1, 2, 3, 4, 5, 6, 7, 8]) := at_cells hrp
  have HW3 := Lib.hid hw3
  have HR3 := Lib.hid hr0
  have HN1 := Lib.hid (fnums_calls (most := 1152921504606846976) (n := 9) (d := 9) (h.below hB3) (Nat.le_refl _) (by omega : pr < w.heap.size + 1) hrg hat (fun b off he => by injection he with he; injection he with he1 he2; omega) rfl (by decide) (by decide))
  clear hw3 h hrp
  go_enter Try.func37, Try.ntmps37
  go_wp2_with fail
  have hw3 := HW3.out
  rw [← hw3]
  clear hw3 HW3
  refine HN1.out.mono ?_
  rintro e w4 ⟨hT4, ⟨ms, r4, A4, c4, h1, hml, rfl, hF4, hg4⟩ | ⟨h1, rfl⟩⟩
  rotate_left
  · have hon : Hid (o = none) := by show o = none; rw [← HO.out]; unfold readM; rw [show numsR 1152921504606846976 9 l = none from h1]; rfl
    go_wp2_with fail
    exact ⟨rfl, two_grown hB3 hT4, .inr ⟨hon.out, rfl⟩⟩
  · obtain ⟨a0, a1, a2, a3, a4, a5, a6, a7, a8, rfl⟩ := len9 hml
    have hg4' : w4.heap[w.heap.size + 1]? = some (.cells #[.int .i64 (Mh.mk (a0 : Int) (a1 : Int) (a2 : Int) (a3 : Int) (a4 : Int) (a5 : Int) (a6 : Int) (a7 : Int) (a8 : Int) false zeroC).kind, .int .i64 (Mh.mk (a0 : Int) (a1 : Int) (a2 : Int) (a3 : Int) (a4 : Int) (a5 : Int) (a6 : Int) (a7 : Int) (a8 : Int) false zeroC).frm, .int .i64 (Mh.mk (a0 : Int) (a1 : Int) (a2 : Int) (a3 : Int) (a4 : Int) (a5 : Int) (a6 : Int) (a7 : Int) (a8 : Int) false zeroC).to, .int .i64 (Mh.mk (a0 : Int) (a1 : Int) (a2 : Int) (a3 : Int) (a4 : Int) (a5 : Int) (a6 : Int) (a7 : Int) (a8 : Int) false zeroC).ballot, .int .i64 (Mh.mk (a0 : Int) (a1 : Int) (a2 : Int) (a3 : Int) (a4 : Int) (a5 : Int) (a6 : Int) (a7 : Int) (a8 : Int) false zeroC).slot, .int .i64 (Mh.mk (a0 : Int) (a1 : Int) (a2 : Int) (a3 : Int) (a4 : Int) (a5 : Int) (a6 : Int) (a7 : Int) (a8 : Int) false zeroC).blob, .int .i64 (Mh.mk (a0 : Int) (a1 : Int) (a2 : Int) (a3 : Int) (a4 : Int) (a5 : Int) (a6 : Int) (a7 : Int) (a8 : Int) false zeroC).index, .int .i64 (Mh.mk (a0 : Int) (a1 : Int) (a2 : Int) (a3 : Int) (a4 : Int) (a5 : Int) (a6 : Int) (a7 : Int) (a8 : Int) false zeroC).epoch, .int .i64 (Mh.mk (a0 : Int) (a1 : Int) (a2 : Int) (a3 : Int) (a4 : Int) (a5 : Int) (a6 : Int) (a7 : Int) (a8 : Int) false zeroC).id, .bool (Mh.mk (a0 : Int) (a1 : Int) (a2 : Int) (a3 : Int) (a4 : Int) (a5 : Int) (a6 : Int) (a7 : Int) (a8 : Int) false zeroC).ok, .int .i64 (Mh.mk (a0 : Int) (a1 : Int) (a2 : Int) (a3 : Int) (a4 : Int) (a5 : Int) (a6 : Int) (a7 : Int) (a8 : Int) false zeroC).cmd.id, .int .i64 (Mh.mk (a0 : Int) (a1 : Int) (a2 : Int) (a3 : Int) (a4 : Int) (a5 : Int) (a6 : Int) (a7 : Int) (a8 : Int) false zeroC).cmd.kind, .string (Mh.mk (a0 : Int) (a1 : Int) (a2 : Int) (a3 : Int) (a4 : Int) (a5 : Int) (a6 : Int) (a7 : Int) (a8 : Int) false zeroC).cmd.key, .int .i64 (Mh.mk (a0 : Int) (a1 : Int) (a2 : Int) (a3 : Int) (a4 : Int) (a5 : Int) (a6 : Int) (a7 : Int) (a8 : Int) false zeroC).cmd.blob, .int .i64 (Mh.mk (a0 : Int) (a1 : Int) (a2 : Int) (a3 : Int) (a4 : Int) (a5 : Int) (a6 : Int) (a7 : Int) (a8 : Int) false zeroC).cmd.other, .int .i64 (Mh.mk (a0 : Int) (a1 : Int) (a2 : Int) (a3 : Int) (a4 : Int) (a5 : Int) (a6 : Int) (a7 : Int) (a8 : Int) false zeroC).cmd.index, .int .i64 (Mh.mk (a0 : Int) (a1 : Int) (a2 : Int) (a3 : Int) (a4 : Int) (a5 : Int) (a6 : Int) (a7 : Int) (a8 : Int) false zeroC).cmd.node, .int .i64 (Mh.mk (a0 : Int) (a1 : Int) (a2 : Int) (a3 : Int) (a4 : Int) (a5 : Int) (a6 : Int) (a7 : Int) (a8 : Int) false zeroC).cmd.size, .int .u32 (Mh.mk (a0 : Int) (a1 : Int) (a2 : Int) (a3 : Int) (a4 : Int) (a5 : Int) (a6 : Int) (a7 : Int) (a8 : Int) false zeroC).cmd.sum, .int .i64 (Mh.mk (a0 : Int) (a1 : Int) (a2 : Int) (a3 : Int) (a4 : Int) (a5 : Int) (a6 : Int) (a7 : Int) (a8 : Int) false zeroC).cmd.k, .int .i64 (Mh.mk (a0 : Int) (a1 : Int) (a2 : Int) (a3 : Int) (a4 : Int) (a5 : Int) (a6 : Int) (a7 : Int) (a8 : Int) false zeroC).cmd.m, .slice none 0 0, .slice none 0 0, .slice none 0 0] 40 (0, 0)) := by
      have hh := hg4
      simp only [putN, List.setIfInBounds_toArray, List.set_cons_zero, List.set_cons_succ] at hh
      exact hh
    have H1 := Lib.hid (show numsR 1152921504606846976 9 l = some ([a0, a1, a2, a3, a4, a5, a6, a7, a8], r4) from h1)
    have hr4 := (hT4.block w.heap.size (by omega) (by omega) (by omega)).trans hr0
    have hz4 := hT4.size
    have HT4 := Lib.hid hT4
    have HB3 := Lib.hid hB3
    clear h1 hml hg4 HN1 hat hr0 hrg hT4 hB3
    by_cases hlen : r4.length < 1
    · have HT5 := Lib.hid (ftake_bad 1 hF4 (by omega))
      have hon : Hid (o = none) := by
        show o = none
        rw [← HO.out]; unfold readM; rw [H1.out, Option.bind_some]; unfold takeR; rw [if_pos hlen]; rfl
      go_wp2_with fail
      refine HT5.out.mono ?_
      rintro e w5 ⟨rfl, rfl⟩
      go_wp2_with fail
      exact ⟨rfl, two_grown HB3.out HT4.out, .inr ⟨hon.out, rfl⟩⟩
    · have HT5 := Lib.hid (ftake_good 1 hF4 (by omega))
      have hatk := hF4.at'.take 1
      rw [bys_take] at hatk
      have hfar4 := hF4.far
      obtain ⟨x, r5, rfl⟩ : ∃ x r5, r4 = x :: r5 := by
        cases r4 with
        | nil => exact absurd (by simp : ([] : List B8).length < 1) hlen
        | cons x r5 => exact ⟨x, r5, rfl⟩
      simp only [List.take_succ_cons, List.take_zero, List.drop_succ_cons, List.drop_zero] at hatk HT5
      have H2 : Hid (takeR 1 (x :: r5) = some ([x], r5)) := by show takeR 1 (x :: r5) = _; unfold takeR; rw [if_neg (by simp)]; rfl
      go_wp2_with fail
      refine HT5.out.mono ?_
      rintro e w5 ⟨rfl, hF5, hgr5⟩
      have hatk5 := hatk.grown' hgr5 (fun b off he hh => by injection hh with hh; have := hfar4 b off he; omega)
      have hg5 := (hgr5.block (w.heap.size + 1) (by omega) (by intro he; injection he with he; omega)).trans hg4'
      have hr5 := (hgr5.block w.heap.size (by omega) (by intro he; injection he with he; omega)).trans hr4
      have HT5' := Lib.hid (HT4.out.trans (Two.of1 hgr5))
      have hz5 := hgr5.size
      obtain ⟨bx, ox, hbx, hcx⟩ := hatk5 0 _ rfl
      subst hbx
      rw [Nat.add_zero] at hcx
      replace hcx : w5.cell? ⟨bx, ox, none⟩ = some (.int .u8 (x.toNat : Int)) := hcx
      clear hF4 hg4' hr4 hatk hatk5 hfar4 HT5 hgr5 hlen
      have c9 := cell_of_row _ _ 9 _ _ (0, 0) hg5
      have f9 := frozen_of_row _ _ 9 _ _ hg5
      simp only [List.getElem?_toArray, List.getElem?_cons_succ, List.getElem?_cons_zero] at c9
      have HG5 := Lib.hid hg5
      have HR5 := Lib.hid hr5
      have HF5 := Lib.hid hF5
      clear hg5 hr5 hF5
      have hx256 := x.isLt
      by_cases hx1 : 1 < x.toNat
      · have hx1i : (1 : Int) < (x.toNat : Int) := by omega
        have hon : Hid (o = none) := by
          show o = none
          rw [← HO.out]; unfold readM; rw [H1.out, Option.bind_some, H2.out, Option.bind_some]
          rw [if_pos (by simpa using hx1)]
        go_wp2_with fail
        exact ⟨rfl, two_grown HB3.out HT5'.out, .inr ⟨hon.out, rfl⟩⟩
      · have hx1i : ¬ ((1 : Int) < (x.toNat : Int)) := by omega
        have HX1 := Lib.hid (show ¬ 1 < x.toNat from hx1)
        obtain ⟨ok, hok⟩ : ∃ ok, ok = (x == 1#8) := ⟨_, rfl⟩
        have hoi : ((x.toNat : Int) == 1) = ok := by
          rw [hok]
          by_cases hxx : x = 1#8
          · subst hxx; rfl
          · have h1 : (x == 1#8) = false := by simpa using hxx
            have h2 : ¬ x.toNat = 1 := fun hh => hxx (by apply BitVec.eq_of_toNat_eq; simpa using hh)
            rw [h1]
            simp; omega
        have HOKB := Lib.hid hok
        have hset6 := heap_setCell_same w5 (w.heap.size + 1) 9 _ _ (.bool ok) HG5.out
        obtain ⟨h0m, hh0m⟩ : ∃ h0m : Mh, h0m = (Mh.mk (a0 : Int) (a1 : Int) (a2 : Int) (a3 : Int) (a4 : Int) (a5 : Int) (a6 : Int) (a7 : Int) (a8 : Int) ok zeroC) := ⟨_, rfl⟩
        have hg6 : (w5.setCell ⟨w.heap.size + 1, 9, none⟩ (.bool ok)).heap[w.heap.size + 1]? = some (.cells #[.int .i64 h0m.kind, .int .i64 h0m.frm, .int .i64 h0m.to, .int .i64 h0m.ballot, .int .i64 h0m.slot, .int .i64 h0m.blob, .int .i64 h0m.index, .int .i64 h0m.epoch, .int .i64 h0m.id, .bool h0m.ok, .int .i64 h0m.cmd.id, .int .i64 h0m.cmd.kind, .string h0m.cmd.key, .int .i64 h0m.cmd.blob, .int .i64 h0m.cmd.other, .int .i64 h0m.cmd.index, .int .i64 h0m.cmd.node, .int .i64 h0m.cmd.size, .int .u32 h0m.cmd.sum, .int .i64 h0m.cmd.k, .int .i64 h0m.cmd.m, .slice none 0 0, .slice none 0 0, .slice none 0 0] 40 (0, 0)) := by rw [hh0m]; exact hset6
        have HH0 := Lib.hid hh0m
        clear hh0m
        have hF6 := HF5.out.other (o := 9) (v := .bool ok) (by omega : pr < w.heap.size + 1)
        have HT6 := Lib.hid (HT5'.out.trans (Two.of2 (grown_set w5 (w.heap.size + 1) 9 (.bool ok))))
        have hz6 : (w5.setCell ⟨w.heap.size + 1, 9, none⟩ (.bool ok)).heap.size = w5.heap.size := by simp
        have HN6 := Lib.hid (fcmdR_calls hF6)
        have HG6 := Lib.hid hg6
        clear hset6 hg6 hF6 hx1 HG5 HF5 hok
        go_wp2_with fail
        generalize w5.setCell ⟨w.heap.size + 1, 9, none⟩ (.bool ok) = w6 at *
        clear c9 f9 hcx hoi
        refine HN6.out.mono ?_
        rintro e w7 ⟨hgr7, ⟨cc, cn, r7, A7, c7, P, e', h3, rfl, hF7, hown7⟩ | ⟨h3, rfl⟩⟩
        rotate_left
        · have hon : Hid (o = none) := by
            show o = none
            rw [← HO.out]; unfold readM; rw [H1.out, Option.bind_some, H2.out, Option.bind_some]
            rw [if_neg (by simpa using HX1.out)]
            show (readC r5).bind _ = none
            rw [h3]; rfl
          go_wp2_with fail
          exact ⟨rfl, two_grown HB3.out (HT6.out.trans (Two.of1 hgr7)), .inr ⟨hon.out, rfl⟩⟩
        · have H3 := Lib.hid h3
          have hg7 := (hgr7.block (w.heap.size + 1) (by omega) (by intro he; injection he with he; omega)).trans HG6.out
          have HT7 := Lib.hid (HT6.out.trans (Two.of1 hgr7))
          have hz7 := hgr7.size
          obtain ⟨h1m, hh1m⟩ : ∃ h1m : Mh, h1m = Mh.withC h0m cc := ⟨_, rfl⟩
          have hnew : (#[.int .i64 h0m.kind, .int .i64 h0m.frm, .int .i64 h0m.to, .int .i64 h0m.ballot, .int .i64 h0m.slot, .int .i64 h0m.blob, .int .i64 h0m.index, .int .i64 h0m.epoch, .int .i64 h0m.id, .bool h0m.ok, .int .i64 h0m.cmd.id, .int .i64 h0m.cmd.kind, .string h0m.cmd.key, .int .i64 h0m.cmd.blob, .int .i64 h0m.cmd.other, .int .i64 h0m.cmd.index, .int .i64 h0m.cmd.node, .int .i64 h0m.cmd.size, .int .u32 h0m.cmd.sum, .int .i64 h0m.cmd.k, .int .i64 h0m.cmd.m, .slice none 0 0, .slice none 0 0, .slice none 0 0] : Array Value).toList.take 10 ++ [.int .i64 cc.id, .int .i64 cc.kind, .string cc.key, .int .i64 cc.blob, .int .i64 cc.other, .int .i64 cc.index, .int .i64 cc.node, .int .i64 cc.size, .int .u32 cc.sum, .int .i64 cc.k, .int .i64 cc.m, .slice P cn.length e'] ++ (#[.int .i64 h0m.kind, .int .i64 h0m.frm, .int .i64 h0m.to, .int .i64 h0m.ballot, .int .i64 h0m.slot, .int .i64 h0m.blob, .int .i64 h0m.index, .int .i64 h0m.epoch, .int .i64 h0m.id, .bool h0m.ok, .int .i64 h0m.cmd.id, .int .i64 h0m.cmd.kind, .string h0m.cmd.key, .int .i64 h0m.cmd.blob, .int .i64 h0m.cmd.other, .int .i64 h0m.cmd.index, .int .i64 h0m.cmd.node, .int .i64 h0m.cmd.size, .int .u32 h0m.cmd.sum, .int .i64 h0m.cmd.k, .int .i64 h0m.cmd.m, .slice none 0 0, .slice none 0 0, .slice none 0 0] : Array Value).toList.drop (10 + 12) = (#[.int .i64 h1m.kind, .int .i64 h1m.frm, .int .i64 h1m.to, .int .i64 h1m.ballot, .int .i64 h1m.slot, .int .i64 h1m.blob, .int .i64 h1m.index, .int .i64 h1m.epoch, .int .i64 h1m.id, .bool h1m.ok, .int .i64 h1m.cmd.id, .int .i64 h1m.cmd.kind, .string h1m.cmd.key, .int .i64 h1m.cmd.blob, .int .i64 h1m.cmd.other, .int .i64 h1m.cmd.index, .int .i64 h1m.cmd.node, .int .i64 h1m.cmd.size, .int .u32 h1m.cmd.sum, .int .i64 h1m.cmd.k, .int .i64 h1m.cmd.m, .slice P cn.length e', .slice none 0 0, .slice none 0 0] : Array Value).toList := by rw [hh1m]; exact msg_put _ _ _ _ _ _
          have HNEW := Lib.hid hnew
          have HH1 := Lib.hid hh1m
          have hown7' := own_lower hown7 (show w3.heap.size ≤ w6.heap.size by omega)
          clear h3 hgr7 HN6 HG6 hnew hh1m hown7
          unfold cmv
          go_wp2_with (refine wpList_put_at rfl 27 (.tmp 33) (.tmp 32) rfl (w.heap.size + 1) 10 [.int .i64 cc.id, .int .i64 cc.kind, .string cc.key, .int .i64 cc.blob, .int .i64 cc.other, .int .i64 cc.index, .int .i64 cc.node, .int .i64 cc.size, .int .u32 cc.sum, .int .i64 cc.k, .int .i64 cc.m, .slice P cn.length e'] rfl rfl 40 _ #[.int .i64 h1m.kind, .int .i64 h1m.frm, .int .i64 h1m.to, .int .i64 h1m.ballot, .int .i64 h1m.slot, .int .i64 h1m.blob, .int .i64 h1m.index, .int .i64 h1m.epoch, .int .i64 h1m.id, .bool h1m.ok, .int .i64 h1m.cmd.id, .int .i64 h1m.cmd.kind, .string h1m.cmd.key, .int .i64 h1m.cmd.blob, .int .i64 h1m.cmd.other, .int .i64 h1m.cmd.index, .int .i64 h1m.cmd.node, .int .i64 h1m.cmd.size, .int .u32 h1m.cmd.sum, .int .i64 h1m.cmd.k, .int .i64 h1m.cmd.m, .slice P cn.length e', .slice none 0 0, .slice none 0 0] hg7 (by kernel_rfl) (by show (22 : Nat) ≤ 24; decide) (cmd_one cc P cn.length e') HNEW.out ?_; intro w8 hgr8 hg8; have hF8 := hF7.grown hgr8 (by omega); have HN8 := Lib.hid (fnum_calls (most := 1000) hF8 (by decide)))
          have HG8 := Lib.hid hg8
          have HT8 := Lib.hid (HT7.out.trans (Two.of2 hgr8))
          have hz8 := hgr8.size
          have hown8 := own_keep hown7' hgr8 (by omega)
          clear hg8 hgr8 hg7 hown7' hF7 hF8 HNEW
          have HRM : Hid (o = (numR 1000 r7).bind fun n => (votesR n.1 n.2).bind fun vs => (numR 2000 vs.2).bind fun k => (takeR k.1 k.2).bind fun b =>
              if mayM ⟨h1m, cn, vs.1, b.1⟩ = true then some (⟨h1m, cn, vs.1, b.1⟩, b.2) else none) := by
            show o = _
            rw [← HO.out]; unfold readM; rw [H1.out, Option.bind_some, H2.out, Option.bind_some]
            rw [if_neg (by simpa using HX1.out)]
            rw [H3.out, Option.bind_some, HH1.out, HH0.out, HOKB.out]
            rfl
          refine HN8.out.mono ?_
          rintro e w9 ⟨hgr9, ⟨nn, r9, A9, c9, h4, rfl, hF9⟩ | ⟨h4, rfl⟩⟩
          rotate_left
          · have hon : Hid (o = none) := by
              show o = none
              rw [HRM.out, h4]; rfl
            go_wp2_with fail
            exact ⟨rfl, two_grown HB3.out (HT8.out.trans (Two.of1 hgr9)), .inr ⟨hon.out, rfl⟩⟩
          · have HRN : Hid (o = (votesR nn r9).bind fun vs => (numR 2000 vs.2).bind fun k => (takeR k.1 k.2).bind fun b =>
                if mayM ⟨h1m, cn, vs.1, b.1⟩ = true then some (⟨h1m, cn, vs.1, b.1⟩, b.2) else none) := by
              show o = _
              rw [HRM.out, h4]; rfl
            have hnn : nn ≤ 1000 := (numR_some h4).2.1
            have hT9 := HT8.out.trans (Two.of1 hgr9)
            have HG9 := Lib.hid ((hgr9.block (w.heap.size + 1) (by omega) (by intro he; injection he with he; omega)).trans HG8.out)
            have hown9 := own_keep hown8 hgr9 (by omega)
            have hz9 := hgr9.size
            clear h4 HN8 HRM HG8 hown8 hgr9 HT4 HT5' HT6 HT7 HT8
            go_wp2_with fail
            have hnil9 : w9.ownsRow w3.heap.size 74 14 (.slice none 0 0) 0 [] := World.ownsRow_nil _ _ _ _
            go_loopw [36] (fun s36 wr => ∃ (t : Nat) (V : List Vt) (r : List B8) (A' : Option Addr) (c' : Nat) (X : Option Addr) (ev : Nat) (us : List Value), t ≤ nn ∧ s36 = .int .i64 ((t : Nat) : Int) ∧ V.length = t ∧ Hid (votesR t r9 = some (V, r)) ∧ FdAt wr pr A' c' r ∧ Hid (wr.heap[w.heap.size + 1]? = some (.cells #[.int .i64 h1m.kind, .int .i64 h1m.frm, .int .i64 h1m.to, .int .i64 h1m.ballot, .int .i64 h1m.slot, .int .i64 h1m.blob, .int .i64 h1m.index, .int .i64 h1m.epoch, .int .i64 h1m.id, .bool h1m.ok, .int .i64 h1m.cmd.id, .int .i64 h1m.cmd.kind, .string h1m.cmd.key, .int .i64 h1m.cmd.blob, .int .i64 h1m.cmd.other, .int .i64 h1m.cmd.index, .int .i64 h1m.cmd.node, .int .i64 h1m.cmd.size, .int .u32 h1m.cmd.sum, .int .i64 h1m.cmd.k, .int .i64 h1m.cmd.m, .slice P cn.length e', .slice X t ev, .slice none 0 0] 40 (0, 0))) ∧ wr.ownsRow w3.heap.size 74 14 (.slice X t ev) t us ∧ Hid (VtsO wr w3.heap.size us V) ∧ Two w3 wr pr (w.heap.size + 1) ∧ wr.ownsRow w3.heap.size 3 1 (.slice P cn.length e') cn.length (ints cn)) (fun s36 _ => nn - (intOf s36).toNat)
            case atStart => exact ⟨0, [], r9, A9, c9, none, 0, [], by omega, rfl, rfl, rfl, hF9, HG9, hnil9, rfl, hT9, hown9⟩
            case round =>
              obtain ⟨t, V, r, A', c', X, ev, us, ht, rfl, hVl, HR, hF, HG, hvo, HVO, hT, hco⟩ := hrel
              rename World => wr
              clear hF9 HG9 hnil9 hT9 hown9
              have hzr := hT.size
              by_cases htn : t < nn
              · have hti : (t : Int) < (nn : Int) := by omega
                obtain ⟨w10, hw10, hB10, hv10, hp10, hz10⟩ := any2s wr (.cells #[.int .i64 0, .int .i64 0, .int .i64 0, .int .i64 0, .string ⟨#[]⟩, .int .i64 0, .int .i64 0, .int .i64 0, .int .i64 0, .int .i64 0, .int .u32 0, .int .i64 0, .int .i64 0, .slice none 0 0] 74) (.cells #[.pointer (some ⟨wr.heap.size, 0, none⟩), .pointer (some ⟨wr.heap.size, 1, none⟩)] 92)
                have hat : At w10 (some ⟨wr.heap.size + 1, 0, none⟩) (ptrs wr.heap.size [0, 1]) := at_cells hp10
                have HN10 := Lib.hid (fnums_calls (most := 1152921504606846976) (n := 2) (d := 2) (hF.below hB10) (Nat.le_refl _) (by omega : pr < wr.heap.size) hv10 hat (fun b off he => by injection he with he; injection he with he1 he2; omega) rfl (by decide) (by decide))
                have HW10 := Lib.hid hw10
                have HB10 := Lib.hid hB10
                clear hw10 hp10 hat hB10 hv10
                go_wp2_with fail
                have hw10 := HW10.out
                rw [← hw10]
                clear hw10 HW10
                refine HN10.out.mono ?_
                rintro e w11 ⟨hT11, ⟨ms, r11, A11, c11, h5, hml, rfl, hF11, hg11⟩ | ⟨h5, rfl⟩⟩
                rotate_left
                · have hon : Hid (o = none) := by
                    show o = none
                    rw [HRN.out, votesR_none (t := t + 1) (k := nn) (by omega) (by rw [votesR, HR.out, Option.bind_some, show numsR 1152921504606846976 2 r = none from h5]; rfl)]; rfl
                  have hT11' := (hT.below (HB10.out.mono hzr)).new hT11 (by omega)
                  go_wp2_with fail
                  exact ⟨rfl, two_grown HB3.out hT11', .inr ⟨hon.out, rfl⟩⟩
                · obtain ⟨b0, b1, rfl⟩ := len2 hml
                  have hg11' : w11.heap[wr.heap.size]? = some (.cells #[.int .i64 (b0 : Int), .int .i64 (b1 : Int), .int .i64 zeroC.id, .int .i64 zeroC.kind, .string zeroC.key, .int .i64 zeroC.blob, .int .i64 zeroC.other, .int .i64 zeroC.index, .int .i64 zeroC.node, .int .i64 zeroC.size, .int .u32 zeroC.sum, .int .i64 zeroC.k, .int .i64 zeroC.m, .slice none 0 0] 74 (0, 0)) := by
                    have hh := hg11
                    simp only [putN, List.setIfInBounds_toArray, List.set_cons_zero, List.set_cons_succ] at hh
                    exact hh
                  have H5 := Lib.hid (show numsR 1152921504606846976 2 r = some ([b0, b1], r11) from h5)
                  have HN12 := Lib.hid (fcmdR_calls hF11)
                  have hz11 := hT11.size
                  have HT11 := Lib.hid hT11
                  have HTr := Lib.hid hT
                  clear h5 hml hg11 HN10 hT11 hT hF
                  go_wp2_with fail
                  refine HN12.out.mono ?_
                  rintro e w12 ⟨hgr12, ⟨vc, vn, r12, A12, c12, Pv, ev', h6, rfl, hF12, hown12⟩ | ⟨h6, rfl⟩⟩
                  rotate_left
                  · have hon : Hid (o = none) := by
                      show o = none
                      rw [HRN.out, votesR_none (t := t + 1) (k := nn) (by omega) (by rw [votesR, HR.out, Option.bind_some, H5.out, Option.bind_some, show readC r11 = none from h6]; rfl)]; rfl
                    have hT12 := (HTr.out.below (HB10.out.mono hzr)).new (HT11.out.trans (Two.of1 hgr12)) (by omega)
                    go_wp2_with fail
                    exact ⟨rfl, two_grown HB3.out hT12, .inr ⟨hon.out, rfl⟩⟩
                  · have H6 := Lib.hid h6
                    have hg12 := (hgr12.block wr.heap.size (by omega) (by intro he; injection he with he; omega)).trans hg11'
                    have hz12 := hgr12.size
                    have HGR12 := Lib.hid hgr12
                    have hown12' := hown12
                    have HOW12 := Lib.hid hown12
                    have hmay := readC_may h6
                    have hvl := readC_len h6
                    have HMAY := Lib.hid hmay
                    clear h6 hgr12 hg11' HN12 hF11 hown12 hmay
                    unfold cmv
                    go_wp2_with (first
                      | (refine wpList_put_at rfl 27 (.tmp 46) (.tmp 45) rfl wr.heap.size 2 [.int .i64 vc.id, .int .i64 vc.kind, .string vc.key, .int .i64 vc.blob, .int .i64 vc.other, .int .i64 vc.index, .int .i64 vc.node, .int .i64 vc.size, .int .u32 vc.sum, .int .i64 vc.k, .int .i64 vc.m, .slice Pv vn.length ev'] rfl rfl 74 _ #[.int .i64 (b0 : Int), .int .i64 (b1 : Int), .int .i64 vc.id, .int .i64 vc.kind, .string vc.key, .int .i64 vc.blob, .int .i64 vc.other, .int .i64 vc.index, .int .i64 vc.node, .int .i64 vc.size, .int .u32 vc.sum, .int .i64 vc.k, .int .i64 vc.m, .slice Pv vn.length ev'] hg12 (by kernel_rfl) (by show (14 : Nat) ≤ 14; decide) (cmd_one vc Pv vn.length ev') (vote_put _ _ _ _ _ _) ?_; intro w13 hgr13 hg13
                         have hz13 := hgr13.size
                         have hgN := (hgr13.block (w.heap.size + 1) (by omega) (by intro he; injection he with he; omega)).trans ((HGR12.out.block (w.heap.size + 1) (by omega) (by intro he; injection he with he; omega)).trans ((HT11.out.block (w.heap.size + 1) (by omega) (by omega) (by omega)).trans ((HB10.out.block (w.heap.size + 1) (by omega)).trans HG.out)))
                         have c22 := cell_of_row _ _ 22 _ _ (0, 0) hgN
                         simp only [List.getElem?_toArray, List.getElem?_cons_succ, List.getElem?_cons_zero] at c22
                         have hat13 : At w13 (some ⟨wr.heap.size, 0, none⟩) [.int .i64 (b0 : Int), .int .i64 (b1 : Int), .int .i64 vc.id, .int .i64 vc.kind, .string vc.key, .int .i64 vc.blob, .int .i64 vc.other, .int .i64 vc.index, .int .i64 vc.node, .int .i64 vc.size, .int .u32 vc.sum, .int .i64 vc.k, .int .i64 vc.m, .slice Pv vn.length ev'] := at_cells hg13
                         have hks : KeepS w3.heap.size wr.heap.size wr w13 := fun k hk1 hk2 => (hgr13.block k (by omega) (by intro he; injection he with he; omega)).trans ((HGR12.out.block k (by omega) (by intro he; injection he with he; omega)).trans ((HT11.out.block k (by omega) (by omega) (by omega)).trans (HB10.out.block k (by omega))))
                         have ho13 := own_keepS hvo hks
                         have HCO13 := Lib.hid (own_keepS hco hks)
                         have HVO13 := Lib.hid (VtsO.map (fun v n xs h => own_keepS h hks) _ _ HVO.out)
                         have hnv13 := own_keep hown12' hgr13 (by omega)
                         have hbl := below1' w13 (.cells #[.int .i64 (b0 : Int), .int .i64 (b1 : Int), .int .i64 vc.id, .int .i64 vc.kind, .string vc.key, .int .i64 vc.blob, .int .i64 vc.other, .int .i64 vc.index, .int .i64 vc.node, .int .i64 vc.size, .int .u32 vc.sum, .int .i64 vc.k, .int .i64 vc.m, .slice Pv vn.length ev'] 74)
                         have hat14 : At (w13.alloc (.cells #[.int .i64 (b0 : Int), .int .i64 (b1 : Int), .int .i64 vc.id, .int .i64 vc.kind, .string vc.key, .int .i64 vc.blob, .int .i64 vc.other, .int .i64 vc.index, .int .i64 vc.node, .int .i64 vc.size, .int .u32 vc.sum, .int .i64 vc.k, .int .i64 vc.m, .slice Pv vn.length ev'] 74)) (some ⟨w13.heap.size, 0, none⟩) [.int .i64 (b0 : Int), .int .i64 (b1 : Int), .int .i64 vc.id, .int .i64 vc.kind, .string vc.key, .int .i64 vc.blob, .int .i64 vc.other, .int .i64 vc.index, .int .i64 vc.node, .int .i64 vc.size, .int .u32 vc.sum, .int .i64 vc.k, .int .i64 vc.m, .slice Pv vn.length ev'] := at_alloc w13 #[.int .i64 (b0 : Int), .int .i64 (b1 : Int), .int .i64 vc.id, .int .i64 vc.kind, .string vc.key, .int .i64 vc.blob, .int .i64 vc.other, .int .i64 vc.index, .int .i64 vc.node, .int .i64 vc.size, .int .u32 vc.sum, .int .i64 vc.k, .int .i64 vc.m, .slice Pv vn.length ev'] 74 (0, 0)
                         have ho14 := own_below ho13 hbl
                         have hsz14 : w3.heap.size ≤ (w13.alloc (.cells #[.int .i64 (b0 : Int), .int .i64 (b1 : Int), .int .i64 vc.id, .int .i64 vc.kind, .string vc.key, .int .i64 vc.blob, .int .i64 vc.other, .int .i64 vc.index, .int .i64 vc.node, .int .i64 vc.size, .int .u32 vc.sum, .int .i64 vc.k, .int .i64 vc.m, .slice Pv vn.length ev'] 74)).heap.size := by simp; omega
                         have HG13 := Lib.hid hgN
                         have HF13 := Lib.hid (hF12.grown hgr13 (by omega))
                         have HT13 := Lib.hid (((HTr.out.below (HB10.out.mono hzr)).new (HT11.out.trans (Two.of1 HGR12.out)) (by omega)).new (Two.of2 (p := pr) hgr13) (by omega))
                         have HNV13 := Lib.hid (own_lower hnv13 (show w3.heap.size ≤ w11.heap.size by omega))
                         clear hgN hks hvo hco hown12' hnv13 hgr13 hg12)
                      | (refine wpList_load_at rfl 74 (.tmp 5) rfl rfl hat13 Try.underlying74 rfl (by kernel_rfl) ?_)
                      | (refine app_vote rfl (.tmp 48) (.tmp 50) rfl w3.heap.size (v := .slice X t ev) rfl ho14 rfl (news := [.int .i64 (b0 : Int), .int .i64 (b1 : Int), .int .i64 vc.id, .int .i64 vc.kind, .string vc.key, .int .i64 vc.blob, .int .i64 vc.other, .int .i64 vc.index, .int .i64 vc.node, .int .i64 vc.size, .int .u32 vc.sum, .int .i64 vc.k, .int .i64 vc.m, .slice Pv vn.length ev']) rfl hat14 (vtc_one (s := (b0 : Int)) (b := (b1 : Int)) vc Pv vn.length ev') (by intro h; cases h) (by omega) hsz14 ?_; intro X15 ev15 w15 ho15 hb15 hg15 hcap15
                         have hg15G := (hb15.block (w.heap.size + 1) (by omega)).trans ((hbl.block (w.heap.size + 1) (by omega)).trans HG13.out)
                         have d22 := cell_of_row _ _ 22 _ _ (0, 0) hg15G
                         have f22 := frozen_of_row _ _ 22 _ _ hg15G
                         simp only [List.getElem?_toArray, List.getElem?_cons_succ, List.getElem?_cons_zero] at d22))
                    have hgt : w.heap.size + 1 < w3.heap.size := by omega
                    have fk : ∀ v n xs, w13.ownsRow w3.heap.size 3 1 v n xs → (w15.setCell ⟨w.heap.size + 1, 22, none⟩ (.slice X15 (t + 1) ev15)).ownsRow w3.heap.size 3 1 v n xs := fun v n xs h =>
                      ownsRow_setCell_below ((own_below h hbl).kept hg15.1 (own_part (own_below h hbl) ho14 (by decide))) (show w.heap.size + 1 < w3.heap.size by omega) _
                    have hFF := ((HF13.out.belowB hbl (by omega)).belowB hb15 (by omega)).other (o := 22) (v := .slice X15 (t + 1) ev15) (by omega : pr < w.heap.size + 1)
                    have hsetF := heap_setCell_same w15 (w.heap.size + 1) 22 _ _ (.slice X15 (t + 1) ev15) hg15G
                    have hoF := ownsRow_setCell_below ho15 (show w.heap.size + 1 < w3.heap.size by omega) (.slice X15 (t + 1) ev15) (a := ⟨w.heap.size + 1, 22, none⟩)
                    have hTF := ((HT13.out.below (hbl.mono (by omega))).below hb15).trans (Two.of2 (p := pr) (grown_set w15 (w.heap.size + 1) 22 (.slice X15 (t + 1) ev15)))
                    have hVF := VtsO.snoc (v := ((b0 : Int), (b1 : Int), vc, vn)) (cs := [.int .i64 (b0 : Int), .int .i64 (b1 : Int), .int .i64 vc.id, .int .i64 vc.kind, .string vc.key, .int .i64 vc.blob, .int .i64 vc.other, .int .i64 vc.index, .int .i64 vc.node, .int .i64 vc.size, .int .u32 vc.sum, .int .i64 vc.k, .int .i64 vc.m, .slice Pv vn.length ev']) ⟨Pv, ev', rfl, fk _ _ _ HNV13.out, hvl, HMAY.out.2⟩ _ _ (VtsO.map fk _ _ HVO13.out)
                    have HR2 : Hid (votesR (t + 1) r9 = some (V ++ [((b0 : Int), (b1 : Int), vc, vn)], r12)) := by
                      show votesR (t + 1) r9 = _
                      rw [votesR, HR.out, Option.bind_some, H5.out, Option.bind_some, H6.out]; rfl
                    exact ⟨⟨t + 1, V ++ [((b0 : Int), (b1 : Int), vc, vn)], r12, A12, c12, X15, ev15, us ++ [.int .i64 (b0 : Int), .int .i64 (b1 : Int), .int .i64 vc.id, .int .i64 vc.kind, .string vc.key, .int .i64 vc.blob, .int .i64 vc.other, .int .i64 vc.index, .int .i64 vc.node, .int .i64 vc.size, .int .u32 vc.sum, .int .i64 vc.k, .int .i64 vc.m, .slice Pv vn.length ev'], by omega, by go_num, by simp [hVl], HR2, hFF, Lib.hid hsetF, hoF, Lib.hid hVF, hTF, fk _ _ _ HCO13.out⟩, by simp [intOf]; omega⟩
              · obtain rfl : nn = t := by omega
                subst hVl
                have HRV : Hid (o = (numR 2000 r).bind fun k => (takeR k.1 k.2).bind fun b => if mayM ⟨h1m, cn, V, b.1⟩ = true then some (⟨h1m, cn, V, b.1⟩, b.2) else none) := by
                  show o = _
                  rw [HRN.out, HR.out]; rfl
                have HR3w := Lib.hid ((hT.block w.heap.size (by omega) (by omega) (by omega)).trans HR3.out)
                clear HRN HR H1 H2 HH0 HOKB HX1 HR5
                go_wp2_with fail
                have hD : Below wr.heap.size wr wr.drew := (belowN 1 : Below wr.heap.size wr (wr.drewN 1))
                have hFD := hF.below hD
                have HGD := Lib.hid ((hD.block (w.heap.size + 1) (by omega)).trans HG.out)
                have HRD := Lib.hid ((hD.block w.heap.size (by omega)).trans HR3w.out)
                have HVD := Lib.hid (own_below hvo hD)
                have HVOD := Lib.hid (VtsO.map (fun v n xs h => own_below h hD) _ _ HVO.out)
                have HCD := Lib.hid (own_below hco hD)
                have HTD := Lib.hid (hT.below (hD.mono hzr))
                have hzD : w3.heap.size ≤ wr.drew.heap.size := Nat.le_trans hzr hD.size
                refine wp_region_held_drew (S := fun _ => True) (by kernel_rfl) trivial (fun _ => ?_)
                generalize wr.drew = WD at *
                clear hD hF HG HR3w hvo HVO hco hT
                have HN16 := Lib.hid (fnum_calls (most := 2000) hFD (by decide))
                refine wpAnyH_take (i := 0) (v := ?_) rfl (by kernel_rfl) (by kernel_rfl) (by kernel_rfl) (fun _ _ _ h => h) (Or.inl ⟨by rfl, ?_⟩) (by assumption) ?_; rotate_left; (intro w hSw; (try dsimp only at hSw); go_simp; (first | done | (with_reducible rfl))); (try simp only [List.getElem_toArray, List.getElem_cons_succ, List.getElem_cons_zero, Act.put, List.setIfInBounds_toArray, List.set_cons_zero, List.set_cons_succ])
                refine wpAnyH_take (i := 1) (v := ?_) rfl (by kernel_rfl) (by kernel_rfl) (by kernel_rfl) (fun _ _ _ h => h) (Or.inl ⟨by rfl, ?_⟩) (by assumption) ?_; rotate_left; (intro w hSw; (try dsimp only at hSw); go_simp; (first | done | (with_reducible rfl))); (try simp only [List.getElem_toArray, List.getElem_cons_succ, List.getElem_cons_zero, Act.put, List.setIfInBounds_toArray, List.set_cons_zero, List.set_cons_succ])
                refine wpAnyH_take (i := 2) (v := ?_) rfl (by kernel_rfl) (by kernel_rfl) (by kernel_rfl) (fun _ _ _ h => h) (Or.inl ⟨by rfl, ?_⟩) (by assumption) ?_; rotate_left; (intro w hSw; (try dsimp only at hSw); go_simp; (first | done | (with_reducible rfl))); (try simp only [List.getElem_toArray, List.getElem_cons_succ, List.getElem_cons_zero, Act.put, List.setIfInBounds_toArray, List.set_cons_zero, List.set_cons_succ])
                refine wpAnyH_take (i := 3) (v := ?_) rfl (by kernel_rfl) (by kernel_rfl) (by kernel_rfl) (fun _ _ _ h => h) (Or.inl ⟨by rfl, ?_⟩) (by assumption) ?_; rotate_left; (intro w hSw; (try dsimp only at hSw); go_simp; (first | done | (with_reducible rfl))); (try simp only [List.getElem_toArray, List.getElem_cons_succ, List.getElem_cons_zero, Act.put, List.setIfInBounds_toArray, List.set_cons_zero, List.set_cons_succ])
                refine wpAnyH_ready (rs := [4]) (by kernel_rfl) (by simp) ?_; refine AllReadyH.cons rfl (fun KK hKK => ?_) AllReadyH.nil
                go_simp
                refine HN16.out.mono ?_
                rintro e w16 ⟨hgr16, ⟨kb, r16, A16, c16, h7, rfl, hF16⟩ | ⟨h7, rfl⟩⟩
                rotate_left
                · have hon : Hid (o = none) := by
                    show o = none
                    rw [HRV.out, h7]; rfl
                  go_wp2_with fail
                  exact ⟨rfl, two_grown HB3.out (HTD.out.trans (Two.of1 hgr16)), .inr ⟨hon.out, rfl⟩⟩
                · have HRK : Hid (o = (takeR kb r16).bind fun b => if mayM ⟨h1m, cn, V, b.1⟩ = true then some (⟨h1m, cn, V, b.1⟩, b.2) else none) := by
                    show o = _
                    rw [HRV.out, h7]; rfl
                  have hkb : kb ≤ 2000 := (numR_some h7).2.1
                  have HGR16 := Lib.hid hgr16
                  have hz16 := hgr16.size
                  clear h7 HRV HN16 hFD hgr16
                  go_wp2_with fail
                  refine hKK.out _ _ trivial (fun _ => ?_)
                  clear hKK KK
                  (try simp only [List.getElem_toArray, List.getElem_cons_succ, List.getElem_cons_zero, Act.put, List.setIfInBounds_toArray, List.set_cons_zero, List.set_cons_succ])
                  by_cases hlen : r16.length < kb
                  · have HT10 := Lib.hid (ftake_bad (kb : Int) hF16 (by omega))
                    have hon : Hid (o = none) := by
                      show o = none
                      rw [HRK.out]; unfold takeR; rw [if_pos hlen]; rfl
                    clear hlen
                    refine wpAnyH_ready (rs := [5]) (by kernel_rfl) (by simp) ?_; refine AllReadyH.cons rfl (fun KK hKK => ?_) AllReadyH.nil
                    go_simp
                    refine HT10.out.mono ?_
                    rintro e w17 ⟨rfl, rfl⟩
                    go_wp2_with fail
                    exact ⟨rfl, two_grown HB3.out (HTD.out.trans (Two.of1 HGR16.out)), .inr ⟨hon.out, rfl⟩⟩
                  · obtain ⟨bs, hbs⟩ : ∃ bs, bs = r16.take kb := ⟨_, rfl⟩
                    have HRB : Hid (o = if mayM ⟨h1m, cn, V, bs⟩ = true then some (⟨h1m, cn, V, bs⟩, r16.drop kb) else none) := by
                      show o = _
                      rw [HRK.out, hbs]; unfold takeR; rw [if_neg hlen]; rfl
                    have HT10 := Lib.hid (ftake_good kb hF16 (by omega))
                    have hatk := hF16.at'.take kb
                    rw [bys_take, ← hbs] at hatk
                    have hfar16 := hF16.far
                    have hlk : bs.length = kb := by rw [hbs]; simp; omega
                    have hnil16 : A16 = none → kb = 0 := fun hh => by have h1 := hF16.nil hh; have h2 := hF16.len; omega
                    clear hlen hbs HRK
                    subst hlk
                    refine wpAnyH_ready (rs := [5]) (by kernel_rfl) (by simp) ?_; refine AllReadyH.cons rfl (fun KK hKK => ?_) AllReadyH.nil
                    go_simp
                    refine HT10.out.mono ?_
                    rintro e w17 ⟨rfl, hF17, hgr17⟩
                    have hatk17 := hatk.grown' hgr17 (fun b off he hh => by injection hh with hh; have := hfar16 b off he; omega)
                    have HGR17 := Lib.hid hgr17
                    have hz17 := hgr17.size
                    clear hF16 hatk hfar16 HT10 hgr17
                    go_wp2_with fail
                    refine hKK.out _ _ trivial (fun _ => ?_)
                    clear hKK KK
                    (try simp only [List.getElem_toArray, List.getElem_cons_succ, List.getElem_cons_zero, Act.put, List.setIfInBounds_toArray, List.set_cons_zero, List.set_cons_succ])
                    have HCL := Lib.hid (clone_calls hatk17 (c := bs.length) rfl hnil16 (by omega))
                    refine wpAnyH_ready (rs := [6]) (by kernel_rfl) (by simp) ?_; refine AllReadyH.cons rfl (fun KK hKK => ?_) AllReadyH.nil
                    go_simp
                    refine HCL.out.mono ?_
                    rintro e w18 ⟨X20, f20, rfl, hbo18, hb18⟩
                    have hz18 := hb18.size
                    have hg18 := (hb18.block (w.heap.size + 1) (by omega)).trans ((HGR17.out.block (w.heap.size + 1) (by omega) (by intro he; injection he with he; omega)).trans ((HGR16.out.block (w.heap.size + 1) (by omega) (by intro he; injection he with he; omega)).trans HGD.out))
                    have c23 := cell_of_row _ _ 23 _ _ (0, 0) hg18
                    have f23 := frozen_of_row _ _ 23 _ _ hg18
                    simp only [List.getElem?_toArray, List.getElem?_cons_succ, List.getElem?_cons_zero] at c23
                    clear hatk17 HCL
                    go_wp2_with fail
                    refine hKK.out _ _ trivial (fun _ => ?_)
                    clear hKK KK
                    (try simp only [List.getElem_toArray, List.getElem_cons_succ, List.getElem_cons_zero, Act.put, List.setIfInBounds_toArray, List.set_cons_zero, List.set_cons_succ])
                    refine wpAnyH_take (i := 7) (v := ?_) rfl (by kernel_rfl) (by kernel_rfl) (by kernel_rfl) (fun _ _ _ h => h) (Or.inl ⟨by rfl, ?_⟩) (by assumption) ?_; rotate_left; (intro w hSw; (try dsimp only at hSw); go_simp; (first | done | (with_reducible rfl))); (try simp only [List.getElem_toArray, List.getElem_cons_succ, List.getElem_cons_zero, Act.put, List.setIfInBounds_toArray, List.set_cons_zero, List.set_cons_succ])
                    refine wpAnyH_ready (rs := [8]) (by kernel_rfl) (by simp) ?_; refine AllReadyH.cons rfl (fun KK hKK => ?_) AllReadyH.nil
                    go_simp
                    go_wp2_with fail
                    refine hKK.out _ _ trivial (fun _ => ?_)
                    clear hKK KK
                    (try simp only [List.getElem_toArray, List.getElem_cons_succ, List.getElem_cons_zero, Act.put, List.setIfInBounds_toArray, List.set_cons_zero, List.set_cons_succ])
                    refine wpAnyH_done (by kernel_rfl) ?_ _
                    have hset19 := heap_setCell_same w18 (w.heap.size + 1) 23 _ _ (.slice X20 bs.length f20) hg18
                    have hg19 : (w18.setCell ⟨w.heap.size + 1, 23, none⟩ (.slice X20 bs.length f20)).heap[w.heap.size + 1]? = some (.cells #[.int .i64 h1m.kind, .int .i64 h1m.frm, .int .i64 h1m.to, .int .i64 h1m.ballot, .int .i64 h1m.slot, .int .i64 h1m.blob, .int .i64 h1m.index, .int .i64 h1m.epoch, .int .i64 h1m.id, .bool h1m.ok, .int .i64 h1m.cmd.id, .int .i64 h1m.cmd.kind, .string h1m.cmd.key, .int .i64 h1m.cmd.blob, .int .i64 h1m.cmd.other, .int .i64 h1m.cmd.index, .int .i64 h1m.cmd.node, .int .i64 h1m.cmd.size, .int .u32 h1m.cmd.sum, .int .i64 h1m.cmd.k, .int .i64 h1m.cmd.m, .slice P cn.length e', .slice X V.length ev, .slice X20 bs.length f20] 40 (0, 0)) := hset19
                    have hr18 := (hb18.block w.heap.size (by omega)).trans ((HGR17.out.block w.heap.size (by omega) (by intro he; injection he with he; omega)).trans ((HGR16.out.block w.heap.size (by omega) (by intro he; injection he with he; omega)).trans HRD.out))
                    have hr19 := (heap_setCell_other w18 ⟨w.heap.size + 1, 23, none⟩ w.heap.size (.slice X20 bs.length f20) (by simp)).trans hr18
                    have hF19 := (hF17.belowB hb18 (by omega)).other (o := 23) (v := .slice X20 bs.length f20) (by omega : pr < w.heap.size + 1)
                    have hT19 := (((HTD.out.trans (Two.of1 HGR16.out)).trans (Two.of1 HGR17.out)).below (hb18.mono (by omega))).trans (Two.of2 (p := pr) (grown_set w18 (w.heap.size + 1) 23 (.slice X20 bs.length f20)))
                    have fk : ∀ T sz v n xs, WD.ownsRow w3.heap.size T sz v n xs → (w18.setCell ⟨w.heap.size + 1, 23, none⟩ (.slice X20 bs.length f20)).ownsRow w3.heap.size T sz v n xs := fun T sz v n xs h =>
                      ownsRow_setCell_below (own_below (own_keep (own_keep h HGR16.out (by omega)) HGR17.out (by omega)) hb18) (show w.heap.size + 1 < w3.heap.size by omega) _
                    have hbo19 := ownsRow_setCell_below hbo18 (show w.heap.size + 1 < w17.heap.size by omega) (.slice X20 bs.length f20) (a := ⟨w.heap.size + 1, 23, none⟩)
                    have hcl := readC_len H3.out
                    have hsm := (readC_may H3.out).2
                    have hMO : MgOwn (w18.setCell ⟨w.heap.size + 1, 23, none⟩ (.slice X20 bs.length f20)) w3.heap.size P e' X ev X20 f20 ⟨h1m, cn, V, bs⟩ :=
                      ⟨fk _ _ _ _ _ HCD.out, hcl, ⟨us, fk _ _ _ _ _ HVD.out, VtsO.map (fun v n xs h => fk _ _ v n xs h) _ _ HVOD.out⟩, hnn, own_lower hbo19 (by omega), hkb, by rw [show (⟨h1m, cn, V, bs⟩ : Mg).h.cmd = cc by show h1m.cmd = cc; rw [HH1.out]; rfl]; exact hsm⟩
                    have hsz19 : w3.heap.size ≤ (w18.setCell ⟨w.heap.size + 1, 23, none⟩ (.slice X20 bs.length f20)).heap.size := by simp; omega
                    clear hset19 hr18 hg18 c23 f23 hbo18 hbo19 hb18 fk hF17 hcl hsm HGR16 HGR17 HVD HVOD HCD HGD HRD HTD
                    generalize w18.setCell ⟨w.heap.size + 1, 23, none⟩ (.slice X20 bs.length f20) = w19 at *
                    have hatM : At w19 (some ⟨w.heap.size + 1, 0, none⟩) [.int .i64 h1m.kind, .int .i64 h1m.frm, .int .i64 h1m.to, .int .i64 h1m.ballot, .int .i64 h1m.slot, .int .i64 h1m.blob, .int .i64 h1m.index, .int .i64 h1m.epoch, .int .i64 h1m.id, .bool h1m.ok, .int .i64 h1m.cmd.id, .int .i64 h1m.cmd.kind, .string h1m.cmd.key, .int .i64 h1m.cmd.blob, .int .i64 h1m.cmd.other, .int .i64 h1m.cmd.index, .int .i64 h1m.cmd.node, .int .i64 h1m.cmd.size, .int .u32 h1m.cmd.sum, .int .i64 h1m.cmd.k, .int .i64 h1m.cmd.m, .slice P cn.length e', .slice X V.length ev, .slice X20 bs.length f20] := at_cells hg19
                    have HMM := Lib.hid (mayMsg_calls (e := ev) hMO.at)
                    simp only at HMM
                    have HMO := Lib.hid hMO
                    have HG19 := Lib.hid hg19
                    have HR19 := Lib.hid hr19
                    have HF19 := Lib.hid hF19
                    have HT19 := Lib.hid hT19
                    clear hMO hg19 hr19 hF19 hT19
                    go_wp2_with (refine wpList_load_at rfl 40 (.tmp 3) rfl rfl hatM Try.underlying40 rfl (by kernel_rfl) ?_)
                    refine HMM.out.mono ?_
                    rintro e w20 ⟨rfl, hb20⟩
                    clear HMM hatM
                    generalize hmay : mayM ⟨h1m, cn, V, bs⟩ = may at *
                    cases may with
                    | false =>
                      have hon : Hid (o = none) := by show o = none; rw [HRB.out]; rfl
                      clear hmay
                      go_wp2_with fail
                      exact ⟨rfl, two_grown HB3.out (HT19.out.below (hb20.mono hsz19)), .inr ⟨hon.out, rfl⟩⟩
                    | true =>
                      have hos : Hid (o = some (⟨h1m, cn, V, bs⟩, r16.drop bs.length)) := by show o = _; rw [HRB.out]; rfl
                      clear hmay
                      have hz20 := hb20.size
                      have hr20 := (hb20.block w.heap.size (by omega)).trans HR19.out
                      have hatN : At w20 (some ⟨w.heap.size + 1, 0, none⟩) [.int .i64 h1m.kind, .int .i64 h1m.frm, .int .i64 h1m.to, .int .i64 h1m.ballot, .int .i64 h1m.slot, .int .i64 h1m.blob, .int .i64 h1m.index, .int .i64 h1m.epoch, .int .i64 h1m.id, .bool h1m.ok, .int .i64 h1m.cmd.id, .int .i64 h1m.cmd.kind, .string h1m.cmd.key, .int .i64 h1m.cmd.blob, .int .i64 h1m.cmd.other, .int .i64 h1m.cmd.index, .int .i64 h1m.cmd.node, .int .i64 h1m.cmd.size, .int .u32 h1m.cmd.sum, .int .i64 h1m.cmd.k, .int .i64 h1m.cmd.m, .slice P cn.length e', .slice X V.length ev, .slice X20 bs.length f20] := at_cells ((hb20.block (w.heap.size + 1) (by omega)).trans HG19.out)
                      have hT20 := HT19.out.below (hb20.mono hsz19)
                      have hgw := two_grown HB3.out hT20
                      have HGW := Lib.hid hgw
                      have HB20 := Lib.hid hb20
                      clear hb20 hgw hT20
                      go_wp2_with (first
                        | (refine wpList_load_at rfl 40 (.tmp 3) rfl rfl hatN Try.underlying40 rfl (by kernel_rfl) ?_)
                        | (refine wpList_put_at rfl 40 (.tmp 2) (.tmp 67) rfl w.heap.size 0 [.int .i64 h1m.kind, .int .i64 h1m.frm, .int .i64 h1m.to, .int .i64 h1m.ballot, .int .i64 h1m.slot, .int .i64 h1m.blob, .int .i64 h1m.index, .int .i64 h1m.epoch, .int .i64 h1m.id, .bool h1m.ok, .int .i64 h1m.cmd.id, .int .i64 h1m.cmd.kind, .string h1m.cmd.key, .int .i64 h1m.cmd.blob, .int .i64 h1m.cmd.other, .int .i64 h1m.cmd.index, .int .i64 h1m.cmd.node, .int .i64 h1m.cmd.size, .int .u32 h1m.cmd.sum, .int .i64 h1m.cmd.k, .int .i64 h1m.cmd.m, .slice P cn.length e', .slice X V.length ev, .slice X20 bs.length f20] rfl rfl 40 _ #[.int .i64 h1m.kind, .int .i64 h1m.frm, .int .i64 h1m.to, .int .i64 h1m.ballot, .int .i64 h1m.slot, .int .i64 h1m.blob, .int .i64 h1m.index, .int .i64 h1m.epoch, .int .i64 h1m.id, .bool h1m.ok, .int .i64 h1m.cmd.id, .int .i64 h1m.cmd.kind, .string h1m.cmd.key, .int .i64 h1m.cmd.blob, .int .i64 h1m.cmd.other, .int .i64 h1m.cmd.index, .int .i64 h1m.cmd.node, .int .i64 h1m.cmd.size, .int .u32 h1m.cmd.sum, .int .i64 h1m.cmd.k, .int .i64 h1m.cmd.m, .slice P cn.length e', .slice X V.length ev, .slice X20 bs.length f20] hr20 (by kernel_rfl) (by show (24 : Nat) ≤ 24; decide) (msg_one h1m P X X20 cn.length e' V.length ev bs.length f20) rfl ?_; intro w21 hgr21 hg21))
                      refine bodyPost_ret (results_cell_row rfl _ _ w.heap.size 40 #[.int .i64 h1m.kind, .int .i64 h1m.frm, .int .i64 h1m.to, .int .i64 h1m.ballot, .int .i64 h1m.slot, .int .i64 h1m.blob, .int .i64 h1m.index, .int .i64 h1m.epoch, .int .i64 h1m.id, .bool h1m.ok, .int .i64 h1m.cmd.id, .int .i64 h1m.cmd.kind, .string h1m.cmd.key, .int .i64 h1m.cmd.blob, .int .i64 h1m.cmd.other, .int .i64 h1m.cmd.index, .int .i64 h1m.cmd.node, .int .i64 h1m.cmd.size, .int .u32 h1m.cmd.sum, .int .i64 h1m.cmd.k, .int .i64 h1m.cmd.m, .slice P cn.length e', .slice X V.length ev, .slice X20 bs.length f20] (0, 0) _ rfl hg21 Try.underlying40 rfl (by kernel_rfl)) rfl ?_
                      have hF20 := HF19.out.belowB HB20.out (by omega)
                      have hz21 := hgr21.size
                      refine ⟨⟨hgr21.os.trans HGW.out.os, hgr21.tape.trans HGW.out.tape, hgr21.output.trans HGW.out.output, Nat.le_trans HGW.out.size hgr21.size, fun k hk hne => (hgr21.block k (by have := HGW.out.size; omega) (by intro he; injection he with he; omega)).trans (HGW.out.block k hk hne)⟩, .inl ⟨⟨h1m, cn, V, bs⟩, _, _, _, P, e', X, ev, X20, f20, hos.out, rfl, hF20.grown hgr21 (by omega), ?_⟩⟩
                      exact ((HMO.out.map (fun T sz v n xs h => own_below h HB20.out)).map (fun T sz v n xs h => own_keep h hgr21 (by omega))).lower (by omega)
end Go.Proofs.Ytfcacplecapgfaa
