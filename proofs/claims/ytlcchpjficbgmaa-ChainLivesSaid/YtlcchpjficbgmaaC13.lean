/- Votes: slices of them, and whether a slot is among them (ChainOrder's closure, slices.IndexFunc, slices.ContainsFunc). -/
import Derived.Test.YtlcchpjficbgmaaC12
namespace Go.Proofs.Ytlcchpjficbgmaa
open Go.RowKit Go.Maps
set_option linter.unusedVariables false
set_option linter.unusedSimpArgs false

abbrev Vt := Int × Int × Cd
/-- Fourteen cells read as a vote. -/
def VtIs (W : World) (cs : List Value) (v : Vt) : Prop :=
  ∃ A d, cs = (#[.int .i64 v.1, .int .i64 v.2.1, .int .i64 v.2.2.1.id, .int .i64 v.2.2.1.kind, .string v.2.2.1.key, .int .i64 v.2.2.1.blob, .int .i64 v.2.2.1.other, .int .i64 v.2.2.1.index, .int .i64 v.2.2.1.node, .int .i64 v.2.2.1.size, .int .u32 v.2.2.1.sum, .int .i64 v.2.2.1.k, .int .i64 v.2.2.1.m, .slice A v.2.2.2.length d]).toList ∧ At W A (ints v.2.2.2) ∧ (A = none → d = 0) ∧ v.2.2.2.length * 8 ≤ 140737488351232 ∧ SumOk v.2.2.1
def Vts (W : World) : List Value → List Vt → Prop
  | vs, [] => vs = []
  | vs, v :: V => ∃ cs rest, vs = cs ++ rest ∧ VtIs W cs v ∧ Vts W rest V
theorem VtIs.len {W : World} {cs : List Value} {v : Vt} (h : VtIs W cs v) : cs.length = 14 := by
  obtain ⟨A, d, rfl, _⟩ := h; rfl
theorem VtIs.below {W w : World} {cs : List Value} {v : Vt} (h : VtIs W cs v) (hb : Below W.heap.size W w) : VtIs w cs v := by
  obtain ⟨A, d, h1, h2, r⟩ := h; exact ⟨A, d, h1, h2.below hb, r⟩
theorem Vts.length {W : World} : ∀ (V : List Vt) (vs : List Value), Vts W vs V → vs.length = V.length * 14
  | [], vs, h => by cases h; rfl
  | v :: V, vs, h => by
    obtain ⟨cs, rest, rfl, h1, h2⟩ := h
    have := Vts.length V rest h2
    have := h1.len
    simp; omega
theorem Vts.snoc {W : World} {v : Vt} {cs : List Value} (hv : VtIs W cs v) : ∀ (V : List Vt) (vs : List Value), Vts W vs V → Vts W (vs ++ cs) (V ++ [v])
  | [], vs, h => by cases h; exact ⟨cs, [], by simp, hv, rfl⟩
  | y :: V, vs, h => by
    obtain ⟨c', rest, rfl, h1, h2⟩ := h
    exact ⟨c', rest ++ cs, by rw [List.append_assoc], h1, Vts.snoc hv V rest h2⟩
theorem Vts.at' {W w : World} {b off : Nat} : ∀ (V : List Vt) (vs : List Value) (k : Nat) (v : Vt), Vts W vs V → At w (some ⟨b, off, none⟩) vs → V[k]? = some v →
    ∃ cs, VtIs W cs v ∧ At w (some ⟨b, off + k * 14, none⟩) cs
  | [], vs, k, v, _, _, h => by simp at h
  | y :: V, vs, 0, v, hv, hA, h => by
    obtain ⟨cs, rest, rfl, h1, h2⟩ := hv
    simp at h
    subst h
    exact ⟨cs, h1, by simpa using hA.append⟩
  | y :: V, vs, k + 1, v, hv, hA, h => by
    obtain ⟨cs, rest, rfl, h1, h2⟩ := hv
    have hr : At w (some ⟨b, off + 14, none⟩) rest := by
      intro i u hu
      obtain ⟨b', o', he, hc⟩ := hA (14 + i) u (by rw [List.getElem?_append_right (by have := h1.len; omega)]; have := h1.len; simpa [this] using hu)
      simp only [Option.some.injEq, Addr.mk.injEq, and_true] at he
      obtain ⟨rfl, rfl⟩ := he
      exact ⟨_, _, rfl, by rw [Nat.add_assoc]; exact hc⟩
    obtain ⟨c', r1, r2⟩ := Vts.at' V rest k v h2 hr (by simpa using h)
    exact ⟨c', r1, by rw [show off + (k + 1) * 14 = off + 14 + k * 14 by omega]; exact r2⟩

set_option maxRecDepth 100000 in
theorem clos_calls {w : World} {gv : Nat} {s : Int} {v : Vt} {A : Option Addr} {n d : Nat} (hc : w.cell? ⟨gv, 0, none⟩ = some (.int .i64 s)) (hlt : gv < w.heap.size) :
    Calls Try.prog 21 #[.agg #[.int .i64 v.1, .int .i64 v.2.1, .int .i64 v.2.2.1.id, .int .i64 v.2.2.1.kind, .string v.2.2.1.key, .int .i64 v.2.2.1.blob, .int .i64 v.2.2.1.other, .int .i64 v.2.2.1.index, .int .i64 v.2.2.1.node, .int .i64 v.2.2.1.size, .int .u32 v.2.2.1.sum, .int .i64 v.2.2.1.k, .int .i64 v.2.2.1.m, .slice A n d], .pointer (some ⟨gv, 0, none⟩)] w (RetV w (.bool (v.1 == s))) := by
  have hne : gv ≠ w.heap.size := by omega
  go_enter Try.func21, Try.ntmps21
  go_wp2_with fail
  go_ret
  exact ⟨rfl, below1 _ _⟩

set_option maxHeartbeats 1000000 in
set_option maxRecDepth 100000 in
theorem vidx_calls {w : World} {A : Option Addr} {n c gv : Nat} {s : Int} {vs : List Value} {V : List Vt} {k : Nat} (hA : At w A vs) (hV : Vts w vs V) (hn : n = V.length) (hmax : V.length < 1000000)
    (hc : w.cell? ⟨gv, 0, none⟩ = some (.int .i64 s)) (hk : k ≤ V.length) (hno : ∀ (j : Nat) v, j < k → V[j]? = some v → v.1 ≠ s) (hyes : ∀ v, V[k]? = some v → v.1 = s) (r : Int) (hr : r = if k < V.length then (k : Int) else -1) :
    Calls Try.prog 28 #[.slice A n c, .func (.func 21) #[] #[.pointer (some ⟨gv, 0, none⟩)]] w (RetV w (.int .i64 r)) := by
  subst hn
  have hlt := block_lt hc
  have HNO := Lib.hid hno
  have HYES := Lib.hid hyes
  have HR := Lib.hid hr
  have HC := Lib.hid hc
  have HLV := Lib.hid (Vts.length _ _ hV)
  clear hno hyes hr hc
  go_enter Try.func28, Try.ntmps28
  go_wp2_with fail
  go_loopw [8] (fun s8 wr => ∃ j : Nat, j ≤ k ∧ s8 = .int .i64 ((j : Nat) : Int) ∧ Below w.heap.size w wr) (fun s8 _ => V.length - (intOf s8).toNat)
  case atStart => exact ⟨0, by omega, rfl, Below.refl _ _⟩
  case round =>
    obtain ⟨j, hj, rfl, hB⟩ := hrel
    by_cases hjv : j < V.length
    · obtain ⟨v, hv⟩ : ∃ v, V[j]? = some v := ⟨_, List.getElem?_eq_getElem hjv⟩
      obtain ⟨b, off, rfl⟩ := some_of_at hA (by rw [HLV.out]; omega)
      obtain ⟨cs, ⟨nA, nd, rfl, _, _, _, _⟩, hat⟩ := Vts.at' _ _ j v hV hA hv
      have hat1 : At wr (some ⟨b, off + j * 14, none⟩) _ := hat.below hB
      have hji : (j : Int) < (V.length : Int) := by omega
      have hj0 : (0 : Int) ≤ (j : Int) := by omega
      have hmi : (V.length : Int) ≤ 1000000 := by omega
      have hcl := fun A' n' d' => clos_calls (w := wr) (gv := gv) (s := s) (v := v) (A := A') (n := n') (d := d') ((hB.cell (p := ⟨gv, 0, none⟩) hlt).trans HC.out) (Nat.lt_of_lt_of_le hlt hB.size)
      by_cases hjk : j < k
      · rw [show (v.1 == s) = false by simpa using HNO.out j v hjk hv] at hcl
        have HCL := Lib.hid hcl
        clear hcl hv hat
        go_wp2_with (first
          | (refine wpList_load_at rfl 53 (.tmp 14) rfl rfl hat1 Try.underlying53 rfl (by kernel_rfl) ?_)
          | (go_at_call 21; refine (HCL.out _ _ _).mono ?_; rintro e w6 ⟨rfl, hb6⟩))
        exact ⟨⟨j + 1, by omega, by go_num, hB.trans (hb6.mono hB.size)⟩, by simp [intOf]; omega⟩
      · obtain rfl : j = k := by omega
        rw [show (v.1 == s) = true by simpa using HYES.out v hv] at hcl
        have HCL := Lib.hid hcl
        have HR2 := Lib.hid (by rw [HR.out, if_pos hjv] : r = (j : Int))
        clear hcl hv hat
        go_wp2_with (first
          | (refine wpList_load_at rfl 53 (.tmp 14) rfl rfl hat1 Try.underlying53 rfl (by kernel_rfl) ?_)
          | (go_at_call 21; refine (HCL.out _ _ _).mono ?_; rintro e w6 ⟨rfl, hb6⟩))
        go_ret
        exact ⟨ret_int HR2.out.symm, hB.trans (hb6.mono hB.size)⟩
    · have HR2 := Lib.hid (by rw [HR.out, if_neg (by omega)] : r = -1)
      go_wp2_with fail
      go_ret
      exact ⟨ret_int HR2.out.symm, hB⟩

theorem first_at {V : List Vt} {s : Int} : (∀ (j : Nat) (v : Vt), V[j]? = some v → v.1 ≠ s) ∨ ∃ (k : Nat) (v : Vt), k < V.length ∧ V[k]? = some v ∧ v.1 = s ∧ ∀ (j : Nat) (u : Vt), j < k → V[j]? = some u → u.1 ≠ s := by
  induction V with
  | nil => exact .inl fun j v h => by simp at h
  | cons x V ih =>
    by_cases hx : x.1 = s
    · exact .inr ⟨0, x, by simp, rfl, hx, fun j u hj => by omega⟩
    · rcases ih with h | ⟨k, v, h1, h2, h3, h4⟩
      · refine .inl fun j v hv => ?_
        cases j with
        | zero => simp at hv; subst hv; exact hx
        | succ j => exact h j v (by simpa using hv)
      · refine .inr ⟨k + 1, v, by simpa using h1, by simpa using h2, h3, fun j u hj hu => ?_⟩
        cases j with
        | zero => simp at hu; subst hu; exact hx
        | succ j => exact h4 j u (by omega) (by simpa using hu)

/-- Is a slot among them? -/
def hasSlot (V : List Vt) (s : Int) : Bool := V.any fun v => v.1 == s

set_option maxRecDepth 100000 in
theorem vhas_calls {w : World} {A : Option Addr} {n c gv : Nat} {s : Int} {vs : List Value} {V : List Vt} (hA : At w A vs) (hV : Vts w vs V) (hn : n = V.length) (hmax : V.length < 1000000)
    (hc : w.cell? ⟨gv, 0, none⟩ = some (.int .i64 s)) :
    Calls Try.prog 20 #[.slice A n c, .func (.func 21) #[] #[.pointer (some ⟨gv, 0, none⟩)]] w (RetV w (.bool (hasSlot V s))) := by
  rcases first_at (V := V) (s := s) with h | ⟨k, v, h1, h2, h3, h4⟩
  · have e : hasSlot V s = false := by
      unfold hasSlot
      rw [List.any_eq_false]
      intro v hv
      obtain ⟨j, hj, rfl⟩ := List.getElem_of_mem hv
      simpa using h j _ (List.getElem?_eq_getElem hj)
    have hidx := vidx_calls (c := c) hA hV hn hmax hc (Nat.le_refl _) (fun j v _ hv => h j v hv) (fun v hv => by simp at hv) (-1) (by rw [if_neg (by omega)])
    rw [e]
    have HI := Lib.hid hidx
    clear hidx e h hc hV hn hA
    go_enter Try.func20, Try.ntmps20
    go_wp2_with (go_at_call 28; refine HI.out.mono ?_; rintro e w6 ⟨rfl, hb6⟩)
    go_ret
    exact ⟨rfl, hb6⟩
  · have e : hasSlot V s = true := by
      unfold hasSlot
      rw [List.any_eq_true]
      exact ⟨v, List.mem_of_getElem? h2, by simpa using h3⟩
    have hidx := vidx_calls (c := c) hA hV hn hmax hc (Nat.le_of_lt h1) h4 (fun u hu => by rw [h2] at hu; cases hu; exact h3) (k : Int) (by rw [if_pos h1])
    rw [e]
    have HI := Lib.hid hidx
    clear hidx e h1 h2 h3 h4 hc hV hn hA
    go_enter Try.func20, Try.ntmps20
    go_wp2_with (go_at_call 28; refine HI.out.mono ?_; rintro e w6 ⟨rfl, hb6⟩)
    go_ret
    exact ⟨rfl, hb6⟩

end Go.Proofs.Ytlcchpjficbgmaa
