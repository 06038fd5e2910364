/- The document's chain (amphoraref13): SameCmd; and a copy of a command (amphoraref09.CopyCmd). -/
import Derived.Test.YtlcchpjficbgmaaC14
namespace Go.Proofs.Ytlcchpjficbgmaa
open Go.RowKit Go.Maps
set_option linter.unusedVariables false
set_option linter.unusedSimpArgs false

theorem At.nth {w : World} {b off : Nat} {l : List Int} (h : At w (some ⟨b, off, none⟩) (ints l)) {k : Nat} (hk : k < l.length) : w.cell? ⟨b, off + k, none⟩ = some (.int .i64 l[k]) := by
  obtain ⟨b', o', he, hc⟩ := h.int hk
  cases he
  exact hc

theorem own_lit2 (w : World) (o1 o2 : Obj) (e : TypeId) : (((w.alloc o1).alloc o2).alloc (.cells #[] e)).ownsRow (w.heap.size + 2) e 1 (.slice (some ⟨w.heap.size + 1 + 1, 0, none⟩) 0 0) 0 (ints []) := by
  have h := World.ownsRow_lit (base := w.heap.size + 2) (e := e) (size := 1) ((w.alloc o1).alloc o2) #[] 0 (by simp) (by decide) rfl
  rwa [show ((w.alloc o1).alloc o2).heap.size = w.heap.size + 1 + 1 by simp] at h

theorem cells_of {w : World} {g : Nat} {c : Cm} {v : Value} {t : TypeId} {fz : Nat × Nat} (h : w.heap[g]? = some (.cells #[.int .i64 c.id, .int .i64 c.kind, .string c.key, .int .i64 c.blob, .int .i64 c.other, .int .i64 c.index, .int .i64 c.node, .int .i64 c.size, .int .u32 c.sum, .int .i64 c.k, .int .i64 c.m, v] t fz)) : w.cell? ⟨g, 0, none⟩ = some (.int .i64 c.id) ∧ w.cell? ⟨g, 1, none⟩ = some (.int .i64 c.kind) ∧ w.cell? ⟨g, 2, none⟩ = some (.string c.key) ∧ w.cell? ⟨g, 3, none⟩ = some (.int .i64 c.blob) ∧ w.cell? ⟨g, 4, none⟩ = some (.int .i64 c.other) ∧ w.cell? ⟨g, 5, none⟩ = some (.int .i64 c.index) ∧ w.cell? ⟨g, 6, none⟩ = some (.int .i64 c.node) ∧ w.cell? ⟨g, 7, none⟩ = some (.int .i64 c.size) ∧ w.cell? ⟨g, 8, none⟩ = some (.int .u32 c.sum) ∧ w.cell? ⟨g, 9, none⟩ = some (.int .i64 c.k) ∧ w.cell? ⟨g, 10, none⟩ = some (.int .i64 c.m) ∧ w.cell? ⟨g, 11, none⟩ = some v :=
  ⟨blk_cell h 0, blk_cell h 1, blk_cell h 2, blk_cell h 3, blk_cell h 4, blk_cell h 5, blk_cell h 6, blk_cell h 7, blk_cell h 8, blk_cell h 9, blk_cell h 10, blk_cell h 11⟩

set_option maxHeartbeats 400000 in
set_option maxRecDepth 100000 in
theorem copy_calls {w : World} (c : Cm) {A : Option Addr} {n d : Nat} {l : List Int} (hA : At w A (ints l)) (hn : n = l.length) (hnil : A = none → d = 0) (hmax : l.length * 8 ≤ 140737488355328) :
    Calls Try.prog 27 #[.agg #[.int .i64 c.id, .int .i64 c.kind, .string c.key, .int .i64 c.blob, .int .i64 c.other, .int .i64 c.index, .int .i64 c.node, .int .i64 c.size, .int .u32 c.sum, .int .i64 c.k, .int .i64 c.m, .slice A n d]] w (RetC w c l) := by
  have HN := Lib.hid hn
  clear hn
  go_enter Try.func27, Try.ntmps27
  go_wp2_with (first
    | (refine wpList_load_row rfl 27 (.tmp 1) rfl w.heap.size rfl 27 #[.int .i64 c.id, .int .i64 c.kind, .string c.key, .int .i64 c.blob, .int .i64 c.other, .int .i64 c.index, .int .i64 c.node, .int .i64 c.size, .int .u32 c.sum, .int .i64 c.k, .int .i64 c.m, .slice A1 n c1] (0, 0) _ (heap_setCell_same w1 w.heap.size 11 _ _ (.slice A1 n c1) hb1.out) Try.underlying27 rfl (by kernel_rfl) ?_)
    | (at_builtin; refine app_ints rfl _ _ rfl (w.heap.size + 2) rfl (xs := []) (own_lit2 w _ _ _) rfl (m := n) HN.out.symm (hA.below ((below2 _ _ _).trans ((below1 _ _).mono (by simp; omega)))) hnil (by have := HN.out; omega) (by simp) ?_; intro A1 c1 w1 ho hb hg hc; clear hg hc; simp only [Nat.zero_add, List.nil_append] at ho ⊢; have hb1 := Lib.hid ((hb.block w.heap.size (by omega)).trans ((heap_alloc_old _ _ (r := w.heap.size) (by simp; omega)).trans (heap_alloc2_old _ _ _))); have hb2 := Lib.hid ((hb.block (w.heap.size + 1) (by omega)).trans ((heap_alloc_old _ _ (r := w.heap.size + 1) (by simp)).trans (heap_alloc2_new _ _ _))); have h11 : w1.cell? ⟨w.heap.size, 11, none⟩ = some (.slice A n d) := (blk_cell hb1.out 11).trans rfl; have hf11 := blk_frozen hb1.out 11; have hf := fun o => blk_frozen hb2.out o; obtain ⟨e0, e1, e2, e3, e4, e5, e6, e7, e8, e9, e10, e11⟩ := cells_of (c := cm0) (v := .slice none 0 0) hb2.out))
  have hb2' := heap_setCell_other w1 ⟨w.heap.size, 11, none⟩ (w.heap.size + 1) (.slice A1 n c1) (by simp)
  have ho2 := putAll_owns (g := w.heap.size) (by omega) [.slice A1 n c1] w1 11 ho
  have hbl := putAll_below (B := w.heap.size) (g := w.heap.size + 1) (by omega) #[.int .i64 c.id, .int .i64 c.kind, .string c.key, .int .i64 c.blob, .int .i64 c.other, .int .i64 c.index, .int .i64 c.node, .int .i64 c.size, .int .u32 c.sum, .int .i64 c.k, .int .i64 c.m, .slice A1 n c1].toList _ 0 (putAll_below (g := w.heap.size) (Nat.le_refl _) [.slice A1 n c1] w1 11 (((below2 w _ _).trans ((below1 _ _).mono (by simp; omega))).trans (hb.mono (by omega))))
  replace ho2 := putAll_owns (g := w.heap.size + 1) (by omega) #[.int .i64 c.id, .int .i64 c.kind, .string c.key, .int .i64 c.blob, .int .i64 c.other, .int .i64 c.index, .int .i64 c.node, .int .i64 c.size, .int .u32 c.sum, .int .i64 c.k, .int .i64 c.m, .slice A1 n c1].toList _ 0 ho2
  have hr := putAll_full (vs := #[.int .i64 c.id, .int .i64 c.kind, .string c.key, .int .i64 c.blob, .int .i64 c.other, .int .i64 c.index, .int .i64 c.node, .int .i64 c.size, .int .u32 c.sum, .int .i64 c.k, .int .i64 c.m, .slice A1 n c1].toList) (hb2'.trans hb2.out) rfl
  refine bodyPost_ret (results_cell_row rfl _ _ (w.heap.size + 1) 27 #[.int .i64 c.id, .int .i64 c.kind, .string c.key, .int .i64 c.blob, .int .i64 c.other, .int .i64 c.index, .int .i64 c.node, .int .i64 c.size, .int .u32 c.sum, .int .i64 c.k, .int .i64 c.m, .slice A1 n c1] (0, 0) _ rfl hr Try.underlying27 rfl (by kernel_rfl)) rfl ?_
  refine ⟨A1, c1, by rw [← HN.out]; rfl, ?_, hbl⟩
  rw [← HN.out]
  exact own_lower ho2 (by omega)

/-- The nodes of a command that the document's chain holds. -/
structure LkN (w : World) (A : Option Addr) (d : Nat) (l : List Int) : Prop where
  at' : At w A (ints l)
  nil : A = none → d = 0
  max : l.length * 8 ≤ 140737488351232
  typ : ∀ a, A = some a → ∃ (cs : Array Value) (fr : Nat × Nat), w.heap[a.block]? = some (.cells cs 3 fr)
/-- Cells that read as the document's links. -/
def Links (w : World) : List Value → List (Int × Cd) → Prop
  | vs, [] => vs = []
  | vs, e :: S => ∃ A d rest, vs = (#[.int .i64 e.1, .int .i64 e.2.1.id, .int .i64 e.2.1.kind, .string e.2.1.key, .int .i64 e.2.1.blob, .int .i64 e.2.1.other, .int .i64 e.2.1.index, .int .i64 e.2.1.node, .int .i64 e.2.1.size, .int .u32 e.2.1.sum, .int .i64 e.2.1.k, .int .i64 e.2.1.m, .slice A e.2.2.length d]).toList ++ rest ∧ LkN w A d e.2.2 ∧ Links w rest S
theorem LkN.keep {w w' : World} {A : Option Addr} {d : Nat} {l : List Int} (h : LkN w A d l) (hk : ∀ (k : Nat) (cs : Array Value) (fr : Nat × Nat), w.heap[k]? = some (.cells cs 3 fr) → w'.heap[k]? = w.heap[k]?) : LkN w' A d l := by
  refine ⟨?_, h.nil, h.max, ?_⟩
  · intro i u hu
    obtain ⟨b, off, rfl, hc⟩ := h.at' i u hu
    obtain ⟨cs, fr, h3⟩ := h.typ _ rfl
    exact ⟨b, off, rfl, (World.cell?_of_block (hk b cs fr h3)).trans hc⟩
  · intro a ha
    obtain ⟨cs, fr, h3⟩ := h.typ a ha
    exact ⟨cs, fr, (hk _ cs fr h3).trans h3⟩
theorem Links.keep {w w' : World} (hk : ∀ (k : Nat) (cs : Array Value) (fr : Nat × Nat), w.heap[k]? = some (.cells cs 3 fr) → w'.heap[k]? = w.heap[k]?) : ∀ (S : List (Int × Cd)) (vs : List Value), Links w vs S → Links w' vs S
  | [], vs, h => h
  | e :: S, vs, h => by
    obtain ⟨A, d, rest, rfl, h1, h2⟩ := h
    exact ⟨A, d, rest, rfl, h1.keep hk, Links.keep hk S rest h2⟩
theorem Links.length {w : World} : ∀ (S : List (Int × Cd)) (vs : List Value), Links w vs S → vs.length = S.length * 13
  | [], vs, h => by cases h; rfl
  | e :: S, vs, h => by
    obtain ⟨A, d, rest, rfl, h1, h2⟩ := h
    have := Links.length S rest h2
    simp; omega
theorem Links.snoc {w : World} {s : Int} {x : Cd} {A : Option Addr} {d : Nat} (hn : LkN w A d x.2) : ∀ (S : List (Int × Cd)) (vs : List Value), Links w vs S → Links w (vs ++ (#[.int .i64 s, .int .i64 x.1.id, .int .i64 x.1.kind, .string x.1.key, .int .i64 x.1.blob, .int .i64 x.1.other, .int .i64 x.1.index, .int .i64 x.1.node, .int .i64 x.1.size, .int .u32 x.1.sum, .int .i64 x.1.k, .int .i64 x.1.m, .slice A x.2.length d]).toList) (S ++ [(s, x)])
  | [], vs, h => by cases h; exact ⟨A, d, [], by simp, hn, rfl⟩
  | e :: S, vs, h => by
    obtain ⟨A', d', rest, rfl, h1, h2⟩ := h
    exact ⟨A', d', rest ++ (#[.int .i64 s, .int .i64 x.1.id, .int .i64 x.1.kind, .string x.1.key, .int .i64 x.1.blob, .int .i64 x.1.other, .int .i64 x.1.index, .int .i64 x.1.node, .int .i64 x.1.size, .int .u32 x.1.sum, .int .i64 x.1.k, .int .i64 x.1.m, .slice A x.2.length d]).toList, by rw [List.append_assoc], h1, Links.snoc hn S rest h2⟩
theorem Links.at' {W w : World} {b off : Nat} : ∀ (S : List (Int × Cd)) (vs : List Value) (k : Nat) (e : Int × Cd), Links W vs S → At w (some ⟨b, off, none⟩) vs → S[k]? = some e →
    ∃ A d, LkN W A d e.2.2 ∧ At w (some ⟨b, off + k * 13, none⟩) (#[.int .i64 e.1, .int .i64 e.2.1.id, .int .i64 e.2.1.kind, .string e.2.1.key, .int .i64 e.2.1.blob, .int .i64 e.2.1.other, .int .i64 e.2.1.index, .int .i64 e.2.1.node, .int .i64 e.2.1.size, .int .u32 e.2.1.sum, .int .i64 e.2.1.k, .int .i64 e.2.1.m, .slice A e.2.2.length d]).toList
  | [], vs, k, v, _, _, h => by simp at h
  | y :: S, vs, 0, e, hv, hA, h => by
    obtain ⟨A, d, rest, rfl, h1, h2⟩ := hv
    simp at h
    subst h
    exact ⟨A, d, h1, by simpa using hA.append⟩
  | y :: S, vs, k + 1, e, hv, hA, h => by
    obtain ⟨A, d, rest, rfl, h1, h2⟩ := hv
    have hr : At w (some ⟨b, off + 13, none⟩) rest := by
      intro i u hu
      obtain ⟨b', o', he, hc⟩ := hA (13 + i) u (by rw [List.getElem?_append_right (by simp)]; simpa using hu)
      simp only [Option.some.injEq, Addr.mk.injEq, and_true] at he
      obtain ⟨rfl, rfl⟩ := he
      exact ⟨_, _, rfl, by rw [Nat.add_assoc]; exact hc⟩
    obtain ⟨A', d', r1, r2⟩ := Links.at' S rest k e h2 hr (by simpa using h)
    exact ⟨A', d', r1, by rw [show off + (k + 1) * 13 = off + 13 + k * 13 by omega]; exact r2⟩

/-- The document's chain at block q holds S. -/
def RChain (w : World) (B q : Nat) (S : List (Int × Cd)) : Prop :=
  ∃ A n d vs, w.heap[q]? = some (.cells #[.slice A n d] 51 (0, 0)) ∧ w.ownsRow B 63 13 (.slice A n d) n vs ∧ n = S.length ∧ Links w vs S ∧ B ≤ q
theorem RChain.below {w w' : World} {B q : Nat} {S : List (Int × Cd)} (h : RChain w B q S) (hb : Below w.heap.size w w') : RChain w' B q S := by
  obtain ⟨A, n, d, vs, h1, h2, h3, h4, h5⟩ := h
  exact ⟨A, n, d, vs, below_blk h1 hb, own_below h2 hb, h3, Links.keep (fun k cs fr hk => hb.block k (Array.getElem?_eq_some_iff.1 hk).1) _ _ h4, h5⟩

/-- A Get answers what stands there. -/
def RetRG (w : World) (o : Option Cd) (e : Ending) (w' : World) : Prop :=
  match o with
  | some x => RetG w x e w'
  | none => e = .returned (.tuple #[cmv cm0 (.slice none 0 0), .bool false]) ∧ Below w.heap.size w w'

theorem look_at {S : List (Int × Cd)} {i : Int} {k : Nat} {e : Int × Cd} (h : S[k]? = some e) (he : e.1 = i) (hn : ∀ (j : Nat) (u : Int × Cd), j < k → S[j]? = some u → u.1 ≠ i) : look S i = some e.2 := by
  unfold look
  have : S.find? (fun u => u.1 == i) = some e := by
    rw [List.find?_eq_some_iff_getElem]
    obtain ⟨hk, h1⟩ := List.getElem?_eq_some_iff.1 h
    refine ⟨by simp [he], k, hk, h1, fun j hj => ?_⟩
    have := hn j _ hj (List.getElem?_eq_getElem (by omega))
    simpa using this
  rw [this]; rfl
theorem look_no {S : List (Int × Cd)} {i : Int} (hn : ∀ (j : Nat) (u : Int × Cd), j < S.length → S[j]? = some u → u.1 ≠ i) : look S i = none := by
  unfold look
  rw [List.find?_eq_none.2]
  · rfl
  · intro e he
    obtain ⟨j, hj, rfl⟩ := List.getElem_of_mem he
    have := hn j _ hj (List.getElem?_eq_getElem hj)
    simpa using this
theorem at_blk1 {w : World} {g : Nat} {cs : Array Value} {t : TypeId} {fz : Nat × Nat} (h : w.heap[g]? = some (.cells cs t fz)) : At w (some ⟨g, 1, none⟩) (cs.toList.drop 1) := by
  intro i x hx
  refine ⟨g, 1, rfl, ?_⟩
  rw [blk_cell h, ← hx, List.getElem?_drop]
  simp
def GLoop (W : World) (S : List (Int × Cd)) (i : Int) (s : Value) (wr : World) : Prop :=
  ∃ k : Nat, k ≤ S.length ∧ s = .int .i64 ((k : Nat) : Int) ∧ Below W.heap.size W wr ∧ ∀ (j : Nat) (u : Int × Cd), j < k → S[j]? = some u → u.1 ≠ i

set_option maxHeartbeats 1000000 in
set_option maxRecDepth 100000 in
theorem rget_calls {w : World} {B q : Nat} {S : List (Int × Cd)} {i : Int} (h : RChain w B q S) (hS : S.length < 1000000) :
    Calls Try.prog 17 #[.pointer (some ⟨q, 0, none⟩), .int .i64 i] w (RetRG w (look S i)) := by
  obtain ⟨A, n, d, vs, hq, ho, rfl, hL, hBq⟩ := h
  have hlt := (Array.getElem?_eq_some_iff.1 hq).1
  have hLl := Lib.hid (Links.length _ _ hL)
  have hAv := own_atN ho
  have h0 := blk_cell hq 0
  simp at h0
  clear ho hBq
  generalize hR : look S i = R
  have HR := Lib.hid hR
  clear hR
  go_enter Try.func17, Try.ntmps17
  go_wp2_with fail
  have hb0 := below1 w (.cells #[.int .i64 0, .int .i64 0, .string ⟨#[]⟩, .int .i64 0, .int .i64 0, .int .i64 0, .int .i64 0, .int .i64 0, .int .u32 0, .int .i64 0, .int .i64 0, .slice none 0 0] 27)
  have hg0 := Lib.hid (heap_alloc_new w (.cells #[.int .i64 0, .int .i64 0, .string ⟨#[]⟩, .int .i64 0, .int .i64 0, .int .i64 0, .int .i64 0, .int .i64 0, .int .u32 0, .int .i64 0, .int .i64 0, .slice none 0 0] 27))
  have hz0 : (w.alloc (.cells #[.int .i64 0, .int .i64 0, .string ⟨#[]⟩, .int .i64 0, .int .i64 0, .int .i64 0, .int .i64 0, .int .i64 0, .int .u32 0, .int .i64 0, .int .i64 0, .slice none 0 0] 27)).heap.size = w.heap.size + 1 := by simp
  generalize w.alloc (.cells #[.int .i64 0, .int .i64 0, .string ⟨#[]⟩, .int .i64 0, .int .i64 0, .int .i64 0, .int .i64 0, .int .i64 0, .int .u32 0, .int .i64 0, .int .i64 0, .slice none 0 0] 27) = W0 at *
  go_loopw [13] (fun s wr => GLoop W0 S i s wr) (fun s _ => S.length - (intOf s).toNat)
  case atStart => exact ⟨0, by omega, rfl, Below.refl _ _, by intro j u hj; omega⟩
  case round =>
    obtain ⟨k, hk, rfl, hB, hno⟩ := hrel
    have hzr := hB.size
    have hBw : Below w.heap.size w wr := hb0.trans (hB.mono (by omega))
    have hgr := Lib.hid (below_blk hg0.out hB)
    by_cases hlt2 : k < S.length
    · obtain ⟨e, he⟩ : ∃ e, S[k]? = some e := ⟨_, List.getElem?_eq_getElem hlt2⟩
      obtain ⟨b1, o1, rfl⟩ := some_of_at hAv (by rw [hLl.out]; omega)
      obtain ⟨nA, nd, hln, hat⟩ := Links.at' _ _ k e hL hAv he
      have hat1 : At wr (some ⟨b1, o1 + k * 13, none⟩) _ := hat.below hBw
      have hki : (k : Int) < (S.length : Int) := by omega
      have HNO := Lib.hid hno
      have HE := Lib.hid he
      clear hat hno he
      by_cases hei : e.1 = i
      · subst hei
        have hR := look_at HE.out rfl HNO.out
        rw [HR.out] at hR
        subst hR
        have hX : At (wr.alloc (.cells #[.int .i64 e.1, .int .i64 e.2.1.id, .int .i64 e.2.1.kind, .string e.2.1.key, .int .i64 e.2.1.blob, .int .i64 e.2.1.other, .int .i64 e.2.1.index, .int .i64 e.2.1.node, .int .i64 e.2.1.size, .int .u32 e.2.1.sum, .int .i64 e.2.1.k, .int .i64 e.2.1.m, .slice nA e.2.2.length nd] 63)) (some ⟨wr.heap.size, 1, none⟩) (#[.int .i64 e.2.1.id, .int .i64 e.2.1.kind, .string e.2.1.key, .int .i64 e.2.1.blob, .int .i64 e.2.1.other, .int .i64 e.2.1.index, .int .i64 e.2.1.node, .int .i64 e.2.1.size, .int .u32 e.2.1.sum, .int .i64 e.2.1.k, .int .i64 e.2.1.m, .slice nA e.2.2.length nd].toList) := at_blk1 (heap_alloc_new _ _)
        go_wp2_with (first
          | (refine wpList_load_at rfl 63 (.tmp 15) rfl rfl hat1 Try.underlying63 rfl (by kernel_rfl) ?_)
          | (refine wpList_load_at rfl 27 (.tmp 21) rfl rfl hX Try.underlying27 rfl (by kernel_rfl) ?_)
          | (go_at_call 27; refine (copy_calls e.2.1 ((hln.at'.below hBw).below (below1 _ _)) rfl hln.nil (by have := hln.max; omega)).mono ?_; rintro e' w1 ⟨A1, c1, rfl, ho, hb⟩; unfold cmv; have hb1 := Lib.hid (below_blk (below_blk hgr.out (below1 _ _)) hb); have hf := fun o => blk_frozen hb1.out o; obtain ⟨e0, e1, e2, e3, e4, e5, e6, e7, e8, e9, e10, e11⟩ := cells_of (c := cm0) (v := .slice none 0 0) hb1.out))
        have hr := putAll_full (vs := #[.int .i64 e.2.1.id, .int .i64 e.2.1.kind, .string e.2.1.key, .int .i64 e.2.1.blob, .int .i64 e.2.1.other, .int .i64 e.2.1.index, .int .i64 e.2.1.node, .int .i64 e.2.1.size, .int .u32 e.2.1.sum, .int .i64 e.2.1.k, .int .i64 e.2.1.m, .slice A1 e.2.2.length c1].toList) hb1.out rfl
        have ho2 := putAll_owns (g := w.heap.size) (by simp; omega) #[.int .i64 e.2.1.id, .int .i64 e.2.1.kind, .string e.2.1.key, .int .i64 e.2.1.blob, .int .i64 e.2.1.other, .int .i64 e.2.1.index, .int .i64 e.2.1.node, .int .i64 e.2.1.size, .int .u32 e.2.1.sum, .int .i64 e.2.1.k, .int .i64 e.2.1.m, .slice A1 e.2.2.length c1].toList w1 0 ho
        have hbl := putAll_below (B := w.heap.size) (g := w.heap.size) (Nat.le_refl _) #[.int .i64 e.2.1.id, .int .i64 e.2.1.kind, .string e.2.1.key, .int .i64 e.2.1.blob, .int .i64 e.2.1.other, .int .i64 e.2.1.index, .int .i64 e.2.1.node, .int .i64 e.2.1.size, .int .u32 e.2.1.sum, .int .i64 e.2.1.k, .int .i64 e.2.1.m, .slice A1 e.2.2.length c1].toList w1 0 ((hBw.trans ((below1 wr _).mono (by omega))).trans (hb.mono (by simp; omega)))
        refine bodyPost_ret (results_row2 rfl _ _ w.heap.size 27 #[.int .i64 e.2.1.id, .int .i64 e.2.1.kind, .string e.2.1.key, .int .i64 e.2.1.blob, .int .i64 e.2.1.other, .int .i64 e.2.1.index, .int .i64 e.2.1.node, .int .i64 e.2.1.size, .int .u32 e.2.1.sum, .int .i64 e.2.1.k, .int .i64 e.2.1.m, .slice A1 e.2.2.length c1] (0, 0) _ rfl hr Try.underlying27 rfl (by kernel_rfl)) rfl ?_
        exact ⟨A1, c1, rfl, own_lower ho2 (by simp; omega), hbl⟩
      · go_wp2_with (first
          | (refine wpList_load_at rfl 63 (.tmp 15) rfl rfl hat1 Try.underlying63 rfl (by kernel_rfl) ?_))
        refine ⟨⟨k + 1, by omega, by go_num, hB.trans ((below1 _ _).mono hB.size), fun j u hj hu => ?_⟩, by simp [intOf]; omega⟩
        by_cases hjk : j < k
        · exact HNO.out j u hjk hu
        · obtain rfl : j = k := by omega
          rw [HE.out] at hu
          injection hu with hu
          subst hu
          exact hei
    · obtain rfl : k = S.length := by omega
      have hR := look_no hno
      rw [HR.out] at hR
      subst hR
      have hf := fun o => blk_frozen hgr.out o
      obtain ⟨e0, e1, e2, e3, e4, e5, e6, e7, e8, e9, e10, e11⟩ := cells_of (c := cm0) (v := .slice none 0 0) hgr.out
      clear hno
      go_wp2_with fail
      have hr := putAll_full (vs := #[.int .i64 cm0.id, .int .i64 cm0.kind, .string cm0.key, .int .i64 cm0.blob, .int .i64 cm0.other, .int .i64 cm0.index, .int .i64 cm0.node, .int .i64 cm0.size, .int .u32 cm0.sum, .int .i64 cm0.k, .int .i64 cm0.m, .slice none 0 0].toList) hgr.out rfl
      have hbl := putAll_below (B := w.heap.size) (g := w.heap.size) (Nat.le_refl _) #[.int .i64 cm0.id, .int .i64 cm0.kind, .string cm0.key, .int .i64 cm0.blob, .int .i64 cm0.other, .int .i64 cm0.index, .int .i64 cm0.node, .int .i64 cm0.size, .int .u32 cm0.sum, .int .i64 cm0.k, .int .i64 cm0.m, .slice none 0 0].toList wr 0 hBw
      refine bodyPost_ret (results_row2 rfl _ _ w.heap.size 27 #[.int .i64 cm0.id, .int .i64 cm0.kind, .string cm0.key, .int .i64 cm0.blob, .int .i64 cm0.other, .int .i64 cm0.index, .int .i64 cm0.node, .int .i64 cm0.size, .int .u32 cm0.sum, .int .i64 cm0.k, .int .i64 cm0.m, .slice none 0 0] (0, 0) _ rfl hr Try.underlying27 rfl (by kernel_rfl)) rfl ?_
      exact ⟨rfl, hbl⟩

end Go.Proofs.Ytlcchpjficbgmaa
