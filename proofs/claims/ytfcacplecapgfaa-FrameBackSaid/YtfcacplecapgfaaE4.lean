/- A string appended to bytes of one's own. -/
import Derived.Test.YtfcacplecapgfaaE3
import Derived.Lib.AppendStr
import Derived.Lib.AppendZeros
namespace Go.Proofs.Ytfcacplecapgfaa
open Go.RowKit
set_option linter.unusedVariables false
set_option linter.unusedSimpArgs false

/-- A string's bytes. -/
def strB (s : ByteArray) : List B8 := s.data.toList.map fun b => b.toBitVec
theorem bys_strB (s : ByteArray) : bys (strB s) = Lib.strCells s := by
  unfold bys strB Lib.strCells
  rw [List.map_map]
  exact List.map_congr_left fun b _ => rfl
@[simp] theorem length_strB (s : ByteArray) : (strB s).length = s.size := by
  unfold strB
  rw [List.length_map, Array.length_toList]
  rfl

theorem run_app_str {w : World} {B n c : Nat} {A : Option Addr} {l : List B8} {s : ByteArray} (ty : TypeId) (hown : w.ownsRow B 5 1 (.slice A n c) n (bys l)) (hk : n + s.size ≤ 1000000000) (hB : B ≤ w.heap.size) :
    ∃ A' c' w', (Builtin.append_ #[28, 9] ty #[.slice A n c, .string s]).run Try.prog w = .ok (.slice A' (n + s.size) c') w' ∧ w'.ownsRow B 5 1 (.slice A' (n + s.size) c') (n + s.size) (bys (l ++ strB s)) ∧
      w.grownBy w' (Value.slice A n c).ownBlock ∧ ((Value.slice A' (n + s.size) c').ownBlock = (Value.slice A n c).ownBlock ∨ (Value.slice A' (n + s.size) c').ownBlock = some w.heap.size) := by
  obtain ⟨i, hi, hz0, hz1, hz2⟩ := info_parts u8info
  have hl : l.length = n := by have := hown.1; simpa using this
  have hlen : (bys (l ++ strB s)).length = (n + s.size) * 1 := by simp [hl]
  have hbs : bys (l ++ strB s) = bys l ++ Lib.strCells s := by rw [bys_append, bys_strB]
  rcases hown.2 with ⟨hv, h0⟩ | ⟨g, cap, cur, hv, hbg, hg, hnc, hcm, hcs, htake⟩
  · injection hv with e1 e2 e3
    subst e1
    subst e3
    subst h0
    have hl0 : l = [] := List.eq_nil_of_length_eq_zero hl
    subst hl0
    by_cases hm : s.size = 0
    · have hn : Lib.strCells s = [] := List.eq_nil_of_length_eq_zero (by rw [Lib.strCells_length]; exact hm)
      have hf := Lib.run_firstCells_string (P := Try.prog) w 1 s
      rw [hm] at hf
      refine ⟨none, 0, w, ?_, ?_, World.grownBy.refl _ _, .inl rfl⟩
      · simp [Builtin.append_, run_underlying Try.underlying28, run_underlying Try.underlying9, sizeOf, typeInfo, hi, hz1, Builtin.lenOf, hm, hf]
      · rw [hbs, hn, hm]; exact World.ownsRow_nil _ _ _ _
    · have hr := run_append_nil_string (P := Try.prog) w 28 9 ty 5 i (.int .u8 0) Try.underlying28 Try.underlying9 hi hz0 s (by omega) (by omega) (by rw [hz2]; omega)
      have hge := grownCap_ge w s.size 0 5
      have hcm2 : grownCap w s.size 0 5 ≤ maxLen := grownCap_le_maxLen w s.size 0 5 (by unfold maxLen; omega)
      have e1 : (s.data.map fun b => Value.int .u8 b.toNat) = (Lib.strCells s).toArray := by
        apply Array.ext'
        simp [Lib.strCells]
      rw [e1] at hr
      rw [Nat.zero_add] at hlen ⊢
      refine ⟨_, _, _, hr, ⟨hlen, .inr ⟨w.heap.size, _, _, rfl, hB, heap_alloc_new w.drew _, hge, hcm2, ?_, ?_⟩⟩, ⟨rfl, rfl, rfl, by simp, fun k' hk' _ => heap_alloc_old w.drew _ (r := k') hk'⟩, .inr rfl⟩
      · have hz1 : (Value.int IntKind.u8 0).cells.size = 1 := rfl
        simp only [Array.size_append, List.size_toArray, size_zeroCells, hz1, Lib.strCells_length]
        omega
      · simp only [Array.toList_append]
        rw [hbs] at hlen ⊢
        rw [← hlen]
        exact List.take_left
  · injection hv with e1 e2 e3
    subst e1
    subst e3
    rw [Nat.mul_one] at hcs htake
    by_cases hroom : n + s.size ≤ c
    · have hr := Lib.run_append_room_string (P := Try.prog) w 28 9 ty 5 i Try.underlying28 Try.underlying9 hi hz1 g n c cur hg s hroom (by omega)
      refine ⟨_, _, _, hr, ⟨hlen, .inr ⟨g, c, _, rfl, hbg, setRow_heap w g cur _ _ _ hg, hroom, hcm, ?_, ?_⟩⟩, ⟨rfl, rfl, rfl, by simp, fun k' _ hk' => setRow_other w g k' _ (fun e => hk' (by rw [e]; rfl))⟩, .inl rfl⟩
      · simp only [List.size_toArray, List.length_append, List.length_take, List.length_drop, Array.length_toList, Lib.strCells_length]
        omega
      · rw [htake, ← hbs, ← hlen]
        exact List.take_left
    · have holds : ∀ j u, (bys l)[j]? = some u → w.cell? ((⟨g, 0, none⟩ : Addr).add j) = some u := hown.cells (g := g) rfl
      have hr := Lib.run_append_grow_string (P := Try.prog) w 28 9 ty 5 i (.int .u8 0) Try.underlying28 Try.underlying9 hi hz0 ⟨g, 0, none⟩ n c (bys l) (by rw [hz1]; simp [hl]) holds s (by omega) (by omega) (by rw [hz2]; exact growslice_fits (by omega) (by omega))
      have hge := grownCap_ge w (n + s.size) c 5
      have hcm2 : grownCap w (n + s.size) c 5 ≤ maxLen := grownCap_le_maxLen w (n + s.size) c 5 (by unfold maxLen; omega)
      refine ⟨_, _, _, hr, ⟨hlen, .inr ⟨w.heap.size, _, _, rfl, hB, heap_alloc_new w.drew _, hge, hcm2, ?_, ?_⟩⟩, ⟨rfl, rfl, rfl, by simp, fun k' hk' _ => heap_alloc_old w.drew _ (r := k') hk'⟩, .inr rfl⟩
      · have hz1 : (Value.int IntKind.u8 0).cells.size = 1 := rfl
        simp only [Array.size_append, List.size_toArray, size_zeroCells, hz1, length_bys, Lib.strCells_length, hl]
        omega
      · simp only [Array.toList_append, List.append_assoc]
        rw [← List.append_assoc, ← hbs, ← hlen]
        exact List.take_left

theorem wp_app_str {w : World} {o : Oper} {a : Act} {K : Act → World → Prop} {Q : Exit → Act → World → Prop} (sl x : Operand)
    (hop : o.op = Op.call { callee := Callee.builtin Builtin.append, args := #[sl, x], argTypes := #[28, 9] })
    (B : Nat) {v : Value} {A : Option Addr} {n c : Nat} {l : List B8} {s : ByteArray} (hs : a.eval sl = v) (hv : v = .slice A n c) (hown : w.ownsRow B 5 1 (.slice A n c) n (bys l)) (hx : a.eval x = .string s)
    (hk : n + s.size ≤ 1000000000) (hB : B ≤ w.heap.size)
    (hK : ∀ A' c' w', w'.ownsRow B 5 1 (.slice A' (n + s.size) c') (n + s.size) (bys (l ++ strB s)) → w.grownBy w' (Value.slice A n c).ownBlock ∧ ((Value.slice A' (n + s.size) c').ownBlock = (Value.slice A n c).ownBlock ∨ (Value.slice A' (n + s.size) c').ownBlock = some w.heap.size) → K (a.put o.dst (.slice A' (n + s.size) c')) w') :
    o.wp Try.prog a w K Q := by
  obtain ⟨A', c', w', hrun, h1, h2, h3⟩ := run_app_str o.type hown hk hB
  exact Lib.wp_append_run w sl x 28 9 hop _ _ (hs.trans hv) hx _ _ hrun (hK A' c' w' h1 ⟨h2, h3⟩)
theorem step_app_str {w : World} {ops : Array Oper} {E : Prop} {o : Oper} {a : Act} {K : Act → World → Prop} {Q : Exit → Act → World → Prop} (hg : o.guard = none) (sl x : Operand)
    (hop : o.op = Op.call { callee := Callee.builtin Builtin.append, args := #[sl, x], argTypes := #[28, 9] })
    (B : Nat) {v : Value} {A : Option Addr} {n c : Nat} {l : List B8} {s : ByteArray} (hs : a.eval sl = v) (hv : v = .slice A n c) (hown : w.ownsRow B 5 1 (.slice A n c) n (bys l)) (hx : a.eval x = .string s)
    (hk : n + s.size ≤ 1000000000) (hB : B ≤ w.heap.size)
    (hK : ∀ A' c' w', w'.ownsRow B 5 1 (.slice A' (n + s.size) c') (n + s.size) (bys (l ++ strB s)) → w.grownBy w' (Value.slice A n c).ownBlock ∧ ((Value.slice A' (n + s.size) c').ownBlock = (Value.slice A n c).ownBlock ∨ (Value.slice A' (n + s.size) c').ownBlock = some w.heap.size) → K (a.put o.dst (.slice A' (n + s.size) c')) w') :
    if Region.wanted o (yielded ops a.tmps) = true then o.wp Try.prog a w K Q else E := by
  rw [if_pos (by simp [Region.wanted, hg])]
  exact wp_app_str sl x hop B hs hv hown hx hk hB hK
theorem app_str {w : World} {ops : Array Oper} {rest : List Oper} {o : Oper} {a : Act} {Q : Exit → Act → World → Prop} (hg : o.guard = none) (sl x : Operand)
    (hop : o.op = Op.call { callee := Callee.builtin Builtin.append, args := #[sl, x], argTypes := #[28, 9] })
    (B : Nat) {v : Value} {A : Option Addr} {n c : Nat} {l : List B8} {s : ByteArray} (hs : a.eval sl = v) (hv : v = .slice A n c) (hown : w.ownsRow B 5 1 (.slice A n c) n (bys l)) (hx : a.eval x = .string s)
    (hk : n + s.size ≤ 1000000000) (hB : B ≤ w.heap.size)
    (hK : ∀ A' c' w', w'.ownsRow B 5 1 (.slice A' (n + s.size) c') (n + s.size) (bys (l ++ strB s)) → w.grownBy w' (Value.slice A n c).ownBlock ∧ ((Value.slice A' (n + s.size) c').ownBlock = (Value.slice A n c).ownBlock ∨ (Value.slice A' (n + s.size) c').ownBlock = some w.heap.size) → wpList Try.prog ops Q rest (a.put o.dst (.slice A' (n + s.size) c')) w') :
    wpList Try.prog ops Q (o :: rest) a w :=
  wpList_plain hg fun _ hK' => wp_app_str sl x hop B hs hv hown hx hk hB fun A' c' w' h1 h2 => hK' _ _ (hK A' c' w' h1 h2)

end Go.Proofs.Ytfcacplecapgfaa
