/- Arguments of a law, opened: commands, and slices of numbers. -/
import Derived.Test.YtfcacplecapgfaaE1
import Derived.ProofKit
import Derived.OpenShut
import Derived.ChangeOld
import Derived.SizedLaws
import Derived.Deep.Slices
namespace Go.Proofs.Ytfcacplecapgfaa
open Go.ChangeShapes Go.WideShapes Go.ChangeAt Go.RowKit
set_option linter.unusedVariables false
set_option linter.unusedSimpArgs false
variable {H : Type} {enc : TypeId × Value → H} {W : World}

/-- No part of a datum is greater than the form's own reach. -/
def SmallD (P : Program) (t : TypeId) (d : DataW H) : Prop := ∀ n ∈ d.weights P t, n ≤ reachBytes
theorem smallD_at {P : Program} {ts : List TypeId} {ds : List (DataW H)} {j : Nat} {t : TypeId} {d : DataW H} (h : (DataW.weightsEach P ts ds).all (· ≤ reachBytes) = true) (ht : ts[j]? = some t) (hd : ds[j]? = some d) : SmallD P t d := by
  intro n hn
  simpa using List.all_eq_true.1 h _ (DataW.weights_mem_each ht hd n hn)
theorem SmallD.field {P : Program} {t : TypeId} {fs : Array Field} {parts : List (DataW H)} {j : Nat} {d : DataW H} {f : Field} (h : SmallD P t (.agg parts)) (ht : P.underlying t = some (.struct fs)) (hf : fs[j]? = some f) (hd : parts[j]? = some d) : SmallD P f.type d := by
  intro n hn
  refine h n ?_
  simp only [DataW.weights, ht]
  exact DataW.weights_mem_each (j := j) (by rw [List.getElem?_map]; simpa using by rw [Array.getElem?_toList] at *; simp [hf]) hd n hn

/-- One slice of whole numbers, as its cell reads. -/
theorem core_ints {P : Program} {t e : TypeId} {fuel : Nat} {cs : List Value} {d : DataW H} {p : List MemPlace}
    (ht : P.underlying t = some (.slice e)) (he : P.underlying e = some (.int .i64)) (hc : P.cellsOf e = 1) (hby : P.bytesOf e = 8)
    (hf : DataW.trod enc P W 0 (fun _ => true) true fuel t cs = some (d, p)) (hs : SmallD P t d) :
    ∃ A c l, cs = [.slice A (l : List Int).length c] ∧ At W A (ints l) ∧ l.length ≤ c ∧ (A = none → c = 0) ∧ l.length * 8 ≤ 140737488351232 := by
  rcases open_ints ht he hc hf with ⟨hcs, hx⟩ | ⟨a, n, c, zs, hcs, _, hl, hm, hz, hx, hcell, hwz⟩
  · subst hcs
    exact ⟨none, 0, [], rfl, At.nil _ _, Nat.le_refl _, fun _ => rfl, by decide⟩
  · subst hcs
    simp only [Prod.mk.injEq] at hx
    obtain ⟨rfl, rfl⟩ := hx
    simp only [if_true] at hz
    have hlen : (zs.take n).length = n := by simp; omega
    refine ⟨some a, c, zs.take n, by rw [hlen], ?_, by omega, fun h => (by cases h), ?_⟩
    · intro i x hx
      have hi : i < n := by
        rcases Nat.lt_or_ge i n with h | h
        · exact h
        · rw [List.getElem?_eq_none (by simp [hlen]; omega)] at hx; cases hx
      rw [ints_getElem?, List.getElem?_take, if_pos hi] at hx
      have hc0 := hcell 0 (by omega)
      obtain ⟨b, off, spot⟩ := a
      have hspot : spot = none := by simpa [Addr.add] using World.cell?_spot hc0
      subst hspot
      refine ⟨b, off, rfl, ?_⟩
      rw [← add_plain, hcell i (by omega)]
      rw [List.getElem?_eq_getElem (by omega)] at hx
      simp only [Option.map_some, Option.some.injEq] at hx
      rw [← hx, List.getD_eq_getElem?_getD, List.getElem?_eq_getElem (by omega)]
      rfl
    · have := hs ((lits (H := H) .i64 (zs.take n)).length * 8 + (lits (H := H) .i64 (zs.drop n)).length * 8) (by
        simp only [DataW.weights, ht, hby]
        rw [Nat.add_mul]
        exact List.mem_cons_self ..)
      simp only [lits, List.length_map, hlen, reachBytes] at this
      rw [hlen]
      omega

theorem list12 {α : Type} {l : List α} (h : l.length = 12) : ∃ a0 a1 a2 a3 a4 a5 a6 a7 a8 a9 a10 a11, l = [a0, a1, a2, a3, a4, a5, a6, a7, a8, a9, a10, a11] := by
  match l, h with
  | [a0, a1, a2, a3, a4, a5, a6, a7, a8, a9, a10, a11], _ => exact ⟨a0, a1, a2, a3, a4, a5, a6, a7, a8, a9, a10, a11, rfl⟩
theorem list11 {α : Type} {l : List α} (h : l.length = 11) : ∃ a0 a1 a2 a3 a4 a5 a6 a7 a8 a9 a10, l = [a0, a1, a2, a3, a4, a5, a6, a7, a8, a9, a10] := by
  match l, h with
  | [a0, a1, a2, a3, a4, a5, a6, a7, a8, a9, a10], _ => exact ⟨a0, a1, a2, a3, a4, a5, a6, a7, a8, a9, a10, rfl⟩
theorem list2 {α : Type} {l : List α} (h : l.length = 2) : ∃ a0 a1, l = [a0, a1] := by
  match l, h with
  | [a0, a1], _ => exact ⟨a0, a1, rfl⟩

/-- What a command's cells are, where they read as a command. -/
def IsCmd (W : World) (cs : List Value) (x : Cd) : Prop :=
  ∃ A d, cs = (#[.int .i64 x.1.id, .int .i64 x.1.kind, .string x.1.key, .int .i64 x.1.blob, .int .i64 x.1.other, .int .i64 x.1.index, .int .i64 x.1.node, .int .i64 x.1.size, .int .u32 x.1.sum, .int .i64 x.1.k, .int .i64 x.1.m, .slice A x.2.length d]).toList ∧ At W A (ints x.2) ∧ x.2.length ≤ d ∧ (A = none → d = 0) ∧ x.2.length * 8 ≤ 140737488351232 ∧ 0 ≤ x.1.sum ∧ x.1.sum < 4294967296

set_option maxHeartbeats 1000000 in
theorem core_cmd {fuel : Nat} {cs : List Value} {d : DataW H} {p : List MemPlace}
    (hf : DataW.trod enc Try.prog W 0 (fun _ => true) true fuel 27 cs = some (d, p)) (hs : SmallD Try.prog 27 d) : ∃ x, IsCmd W cs x := by
  obtain ⟨xs, n, _, hx, hlen, hxl, hg⟩ := DataW.trod_struct Try.underlying27 hf
  have h12 : Try.prog.cellsOf 27 = 12 := by kernel_rfl
  have c3 : Try.prog.cellsOf 3 = 1 := by kernel_rfl
  have c9 : Try.prog.cellsOf 9 = 1 := by kernel_rfl
  have c22 : Try.prog.cellsOf 22 = 1 := by kernel_rfl
  have c24 : Try.prog.cellsOf 24 = 2 := by kernel_rfl
  have c25 : Try.prog.cellsOf 25 = 1 := by kernel_rfl
  obtain ⟨a0, a1, a2, a3, a4, a5, a6, a7, a8, a9, a10, a11, rfl⟩ := list12 (hlen.trans h12)
  obtain ⟨x0, x1, x2, x3, x4, x5, x6, x7, x8, x9, x10, rfl⟩ := list11 (by simpa using hxl)
  have g0 : DataW.trod enc Try.prog W 0 (fun _ => true) true n 3 [a0] = some x0 := by simpa [c3] using hg 0 _ rfl
  have g1 : DataW.trod enc Try.prog W 0 (fun _ => true) true n 3 [a1] = some x1 := by simpa [c3] using hg 1 _ rfl
  have g2 : DataW.trod enc Try.prog W 0 (fun _ => true) true n 9 [a2] = some x2 := by simpa [c9] using hg 2 _ rfl
  have g3 : DataW.trod enc Try.prog W 0 (fun _ => true) true n 3 [a3] = some x3 := by simpa [c3] using hg 3 _ rfl
  have g4 : DataW.trod enc Try.prog W 0 (fun _ => true) true n 3 [a4] = some x4 := by simpa [c3] using hg 4 _ rfl
  have g5 : DataW.trod enc Try.prog W 0 (fun _ => true) true n 3 [a5] = some x5 := by simpa [c3] using hg 5 _ rfl
  have g6 : DataW.trod enc Try.prog W 0 (fun _ => true) true n 3 [a6] = some x6 := by simpa [c3] using hg 6 _ rfl
  have g7 : DataW.trod enc Try.prog W 0 (fun _ => true) true n 3 [a7] = some x7 := by simpa [c3] using hg 7 _ rfl
  have g8 : DataW.trod enc Try.prog W 0 (fun _ => true) true n 22 [a8] = some x8 := by simpa [c22] using hg 8 _ rfl
  have g9 : DataW.trod enc Try.prog W 0 (fun _ => true) true n 24 [a9, a10] = some x9 := by simpa [c24] using hg 9 _ rfl
  have g10 : DataW.trod enc Try.prog W 0 (fun _ => true) true n 25 [a11] = some x10 := by simpa [c25] using hg 10 _ rfl
  obtain ⟨i0, e0, _, _⟩ := DataW.trod_int Try.underlying3 g0
  obtain ⟨i1, e1, _, _⟩ := DataW.trod_int Try.underlying3 g1
  obtain ⟨i3, e3, _, _⟩ := DataW.trod_int Try.underlying3 g3
  obtain ⟨i4, e4, _, _⟩ := DataW.trod_int Try.underlying3 g4
  obtain ⟨i5, e5, _, _⟩ := DataW.trod_int Try.underlying3 g5
  obtain ⟨i6, e6, _, _⟩ := DataW.trod_int Try.underlying3 g6
  obtain ⟨i7, e7, _, _⟩ := DataW.trod_int Try.underlying3 g7
  obtain ⟨s2, e2, _, _⟩ := DataW.trod_string Try.underlying9 g2
  obtain ⟨i8, e8, _, w8⟩ := DataW.trod_int Try.underlying22 g8
  have hb8 : 0 ≤ i8 ∧ i8 ≤ 4294967295 := bounds_u32 w8
  obtain ⟨ys, n', _, _, _, hyl, hk⟩ := DataW.trod_struct Try.underlying24 g9
  obtain ⟨y0, y1, rfl⟩ := list2 (by simpa using hyl)
  have k0 : DataW.trod enc Try.prog W 0 (fun _ => true) true n' 3 [a9] = some y0 := by simpa [c3] using hk 0 _ rfl
  have k1 : DataW.trod enc Try.prog W 0 (fun _ => true) true n' 3 [a10] = some y1 := by simpa [c3] using hk 1 _ rfl
  obtain ⟨j0, f0, _, _⟩ := DataW.trod_int Try.underlying3 k0
  obtain ⟨j1, f1, _, _⟩ := DataW.trod_int Try.underlying3 k1
  simp only [Prod.mk.injEq, List.map_cons, List.map_nil] at hx
  obtain ⟨rfl, rfl⟩ := hx
  obtain ⟨A, c, l, e10, hA, hlc, hnil, hmax⟩ := core_ints Try.underlying25 Try.underlying3 c3 (by kernel_rfl) g10 (hs.field (j := 10) Try.underlying27 rfl rfl)
  (try simp only [List.cons.injEq, and_true] at e0 e1 e2 e3 e4 e5 e6 e7 e8 f0 f1 e10)
  subst e0 e1 e2 e3 e4 e5 e6 e7 e8 f0 f1 e10
  exact ⟨(⟨i0, i1, s2, i3, i4, i5, i6, i7, i8, j0, j1⟩, l), A, c, rfl, hA, hlc, hnil, hmax, hb8.1, by show i8 < 4294967296; omega⟩

/-- A command by value. -/
theorem open_cmd {r : Reach} {b0 : Nat} {v : Value} {d : DataW H} {p : List MemPlace} {ts : List TypeId} {ds : List (DataW H)} {j : Nat}
    (hv : Value.okWide Try.prog W r b0 27 v) (h : DataW.Trod enc Try.prog W 0 (fun _ => true) true 27 v d p)
    (hsz : (DataW.weightsEach Try.prog ts ds).all (· ≤ reachBytes) = true) (hj : ts[j]? = some 27) (hd : ds[j]? = some d) :
    ∃ (x : Cd) (A : Option Addr) (c : Nat), v = .agg #[.int .i64 x.1.id, .int .i64 x.1.kind, .string x.1.key, .int .i64 x.1.blob, .int .i64 x.1.other, .int .i64 x.1.index, .int .i64 x.1.node, .int .i64 x.1.size, .int .u32 x.1.sum, .int .i64 x.1.k, .int .i64 x.1.m, .slice A x.2.length c] ∧ At W A (ints x.2) ∧ x.2.length ≤ c ∧ (A = none → c = 0) ∧ x.2.length * 8 ≤ 140737488351232 ∧ 0 ≤ x.1.sum ∧ x.1.sum < 4294967296 := by
  obtain ⟨cs, rfl, hsz'⟩ := okWide_struct Try.underlying27 hv
  obtain ⟨fuel, hf⟩ := h
  obtain ⟨x, A, c, h1, r⟩ := core_cmd hf (smallD_at hsz hj hd)
  refine ⟨x, A, c, ?_, r⟩
  have : cs.toList = _ := h1
  rw [← Array.toArray_toList (xs := cs), this]

end Go.Proofs.Ytfcacplecapgfaa
