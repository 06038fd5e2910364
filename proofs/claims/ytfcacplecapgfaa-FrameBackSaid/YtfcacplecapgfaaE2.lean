/- Contract: slices.Reverse of bytes of one's own. -/
import Derived.Test.YtfcacplecapgfaaE1
import Derived.Test.YtfcacplecapgfaaP1
import Derived.Deep.RegionHeld
namespace Go.Proofs.Ytfcacplecapgfaa
open Go.RowKit
set_option linter.unusedVariables false
set_option linter.unusedSimpArgs false

theorem grown_set (w : World) (k j : Nat) (x : Value) : w.grownBy (w.setCell ⟨k, j, none⟩ x) (some k) :=
  ⟨rfl, rfl, rfl, by simp, fun i _ hk => heap_setCell_other w ⟨k, j, none⟩ i x (fun e => hk (by simp [e]))⟩
theorem grown_of_below {w w' : World} (h : Below w.heap.size w w') (row : Option Nat) : w.grownBy w' row := ⟨h.os, h.tape, h.output, h.size, fun k hk _ => h.block k hk⟩
theorem grown_refl (w : World) (row : Option Nat) : w.grownBy w row := ⟨rfl, rfl, rfl, Nat.le_refl _, fun _ _ _ => rfl⟩
theorem grown_trans {a b c : World} {row : Option Nat} (h : a.grownBy b row) (k : b.grownBy c row) : a.grownBy c row :=
  ⟨k.os.trans h.os, k.tape.trans h.tape, k.output.trans h.output, Nat.le_trans h.size k.size, fun i hi hne => (k.block i (Nat.lt_of_lt_of_le hi h.size) hne).trans (h.block i hi hne)⟩
theorem grown_drew {a w : World} {row : Option Nat} (h : a.grownBy w row) : a.grownBy w.drew row :=
  grown_trans h (grown_of_below (belowN 1 : Below w.heap.size w (w.drewN 1)) _)

theorem share {G P : Prop} (h : G → P) (g : G) : P := h g
/-- A list whose outer bytes, so many from each end, are turned round. -/
def revL (l : List B8) (i : Nat) : List B8 := (List.range l.length).map fun k => if k < i ∨ l.length - i ≤ k then l.getD (l.length - 1 - k) 0#8 else l.getD k 0#8
@[simp] theorem length_revL (l : List B8) (i : Nat) : (revL l i).length = l.length := by simp [revL]
theorem revL_get {l : List B8} {i k : Nat} (h : k < l.length) : (revL l i)[k]? = some (if k < i ∨ l.length - i ≤ k then l.getD (l.length - 1 - k) 0#8 else l.getD k 0#8) := by simp [revL, h]
theorem getD_at {l : List B8} {k : Nat} (h : k < l.length) : l.getD k 0#8 = l[k] := by rw [List.getD_eq_getElem?_getD, List.getElem?_eq_getElem h]; rfl
theorem revL_zero (l : List B8) : revL l 0 = l := by
  apply List.ext_getElem?
  intro k
  by_cases h : k < l.length
  · rw [revL_get h, if_neg (by omega), getD_at h, List.getElem?_eq_getElem h]
  · rw [List.getElem?_eq_none (by simpa using h), List.getElem?_eq_none (by omega)]
theorem revL_end {l : List B8} {i : Nat} (hi : l.length ≤ 2 * i + 1) (hi2 : 2 * i ≤ l.length + 1) : revL l i = l.reverse := by
  apply List.ext_getElem?
  intro k
  by_cases h : k < l.length
  · rw [revL_get h, List.getElem?_reverse h]
    by_cases h2 : k < i ∨ l.length - i ≤ k
    · rw [if_pos h2, getD_at (by omega), List.getElem?_eq_getElem (by omega)]
    · rw [if_neg h2, getD_at h, show l.length - 1 - k = k by omega, List.getElem?_eq_getElem h]
  · rw [List.getElem?_eq_none (by simpa using h), List.getElem?_eq_none (by simpa using h)]
theorem revL_step {l : List B8} {i : Nat} (h : 2 * i + 1 < l.length) (x y : B8) (hx : (revL l i)[i]? = some x) (hy : (revL l i)[l.length - 1 - i]? = some y) :
    ((revL l i).set i y).set (l.length - 1 - i) x = revL l (i + 1) := by
  rw [revL_get (by omega), if_neg (by omega)] at hx
  rw [revL_get (by omega), if_neg (by omega)] at hy
  injection hx with hx
  injection hy with hy
  apply List.ext_getElem?
  intro k
  by_cases hk : k < l.length
  · rw [revL_get hk, List.getElem?_set]
    by_cases h1 : l.length - 1 - i = k
    · rw [if_pos h1, if_pos (by simp; omega), if_pos (by omega), ← hx]
      congr 2
      omega
    · rw [if_neg h1, List.getElem?_set]
      by_cases h2 : i = k
      · rw [if_pos h2, if_pos (by simp; omega), if_pos (by omega), ← hy, h2]
      · rw [if_neg h2, revL_get hk]
        by_cases h3 : k < i ∨ l.length - i ≤ k
        · rw [if_pos h3, if_pos (by omega)]
        · rw [if_neg h3, if_neg (by omega)]
  · rw [List.getElem?_eq_none (by simpa using hk), List.getElem?_eq_none (by simpa using hk)]

set_option maxHeartbeats 1000000 in
set_option maxRecDepth 100000 in
theorem reverse_calls {w : World} {B n c : Nat} {A : Option Addr} {l : List B8} (ho : w.ownsRow B 5 1 (.slice A n c) n (bys l)) (hn : n ≤ 1000000) :
    Calls Try.prog 57 #[.slice A n c] w fun e w' => e = .returned (.tuple #[]) ∧ w'.ownsRow B 5 1 (.slice A n c) n (bys l.reverse) ∧ w.grownBy w' (Value.slice A n c).ownBlock := by
  have hl : l.length = n := by have := ho.1; simpa using this
  have HL := Lib.hid hl
  have h0 : w.ownsRow B 5 1 (.slice A n c) n (bys (revL l 0)) := by rw [revL_zero]; exact ho
  clear hl ho
  go_enter Try.func57, Try.ntmps57
  go_wp2_with fail
  go_loopw [2, 3] (fun s2 s3 wr => ∃ i : Nat, 2 * i ≤ n + 1 ∧ s2 = .int .i64 ((i : Nat) : Int) ∧ s3 = .int .i64 ((n : Int) - 1 - (i : Int)) ∧ wr.ownsRow B 5 1 (.slice A n c) n (bys (revL l i)) ∧ w.grownBy wr (Value.slice A n c).ownBlock) (fun s2 _ _ => n + 1 - (intOf s2).toNat)
  case atStart => exact ⟨0, by omega, rfl, by simp, h0, grown_refl _ _⟩
  case round =>
    obtain ⟨i, hi, rfl, rfl, hO, hg⟩ := hrel
    rename World => w1
    clear h0
    by_cases hlt : 2 * i + 1 < n
    · have hij : (i : Int) < (n : Int) - 1 - (i : Int) := by omega
      obtain ⟨g, rfl⟩ := own_block hO (by omega)
      have hln := HL.out
      have hx1 : i < (revL l i).length := by simp; omega
      have hx2 : l.length - 1 - i < (revL l i).length := by simp; omega
      have hxi : (revL l i)[i]? = some (revL l i)[i] := List.getElem?_eq_getElem hx1
      have hxj : (revL l i)[l.length - 1 - i]? = some (revL l i)[l.length - 1 - i] := List.getElem?_eq_getElem hx2
      have hci := own_cell hO (j := i) hx1
      have hcj := own_cell hO (j := l.length - 1 - i) hx2
      have HST := Lib.hid (revL_step (by omega) _ _ hxi hxj)
      generalize (revL l i)[i] = x at *
      generalize (revL l i)[l.length - 1 - i] = y at *
      have hji : (n : Int) - 1 - (i : Int) = ((l.length - 1 - i : Nat) : Int) := by omega
      generalize hj : l.length - 1 - i = j at *
      have HJ := Lib.hid hj
      rw [hji]
      have hij2 : (i : Int) < (j : Int) := by omega
      have hjn : (j : Int) < (n : Int) := by omega
      have hin : (i : Int) < (n : Int) := by omega
      clear hxi hxj hx1 hx2 hj hji hij hln
      go_wp2_with fail
      have hOD : w1.drew.ownsRow B 5 1 (.slice (some ⟨g, 0, none⟩) n c) n (bys (revL l i)) := hO.drew
      have hgD := grown_drew hg
      have hciD : w1.drew.cell? ⟨g, i, none⟩ = some (.int .u8 (x.toNat : Int)) := hci
      have hcjD : w1.drew.cell? ⟨g, j, none⟩ = some (.int .u8 (y.toNat : Int)) := hcj
      refine wp_region_held_drew (S := fun _ => True) (by kernel_rfl) trivial (fun _ => ?_)
      generalize w1.drew = WD at *
      have hfi := hOD.frozenAt i
      have hst1 := own_store hOD i y
      have hst2 := own_store hst1 j x
      rw [HST.out] at hst2
      have hc2 := own_cell hst1 (j := j) (by rw [List.length_set, length_revL]; have := HL.out; omega)
      have hf2 := hst1.frozenAt j
      generalize ((revL l i).set i y)[j]'(by rw [List.length_set, length_revL]; have := HL.out; omega) = z at hc2
      simp only [bv] at hst1 hst2 hc2 hf2
      clear hO hg hci hcj
      refine wpAnyH_take (i := 0) (v := ?_) rfl (by kernel_rfl) (by kernel_rfl) (by kernel_rfl) (fun _ _ _ h => h) (Or.inl ⟨by rfl, ?_⟩) (by assumption) ?_; rotate_left; (intro w hSw; (try dsimp only at hSw); go_simp; (first | done | (with_reducible rfl))); (try simp only [List.getElem_toArray, List.getElem_cons_succ, List.getElem_cons_zero, Act.put, List.setIfInBounds_toArray, List.set_cons_zero, List.set_cons_succ])
      refine wpAnyH_take (i := 1) (v := ?_) rfl (by kernel_rfl) (by kernel_rfl) (by kernel_rfl) (fun _ _ _ h => h) (Or.inl ⟨by rfl, ?_⟩) (by assumption) ?_; rotate_left; (intro w hSw; (try dsimp only at hSw); go_simp; (first | done | (with_reducible rfl))); (try simp only [List.getElem_toArray, List.getElem_cons_succ, List.getElem_cons_zero, Act.put, List.setIfInBounds_toArray, List.set_cons_zero, List.set_cons_succ])
      refine wpAnyH_take (i := 4) (v := ?_) rfl (by kernel_rfl) (by kernel_rfl) (by kernel_rfl) (fun _ _ _ h => h) (Or.inl ⟨by rfl, ?_⟩) (by assumption) ?_; rotate_left; (intro w hSw; (try dsimp only at hSw); go_simp; (first | done | (with_reducible rfl))); (try simp only [List.getElem_toArray, List.getElem_cons_succ, List.getElem_cons_zero, Act.put, List.setIfInBounds_toArray, List.set_cons_zero, List.set_cons_succ])
      refine wpAnyH_take (i := 5) (v := ?_) rfl (by kernel_rfl) (by kernel_rfl) (by kernel_rfl) (fun _ _ _ h => h) (Or.inl ⟨by rfl, ?_⟩) (by assumption) ?_; rotate_left; (intro w hSw; (try dsimp only at hSw); go_simp; (first | done | (with_reducible rfl))); (try simp only [List.getElem_toArray, List.getElem_cons_succ, List.getElem_cons_zero, Act.put, List.setIfInBounds_toArray, List.set_cons_zero, List.set_cons_succ])
      refine wpAnyH_take (i := 8) (v := ?_) rfl (by kernel_rfl) (by kernel_rfl) (by kernel_rfl) (fun _ _ _ h => h) (Or.inl ⟨by rfl, ?_⟩) (by assumption) ?_; rotate_left; (intro w hSw; (try dsimp only at hSw); go_simp; (first | done | (with_reducible rfl))); (try simp only [List.getElem_toArray, List.getElem_cons_succ, List.getElem_cons_zero, Act.put, List.setIfInBounds_toArray, List.set_cons_zero, List.set_cons_succ])
      refine wpAnyH_take (i := 9) (v := ?_) rfl (by kernel_rfl) (by kernel_rfl) (by kernel_rfl) (fun _ _ _ h => h) (Or.inl ⟨by rfl, ?_⟩) (by assumption) ?_; rotate_left; (intro w hSw; (try dsimp only at hSw); go_simp; (first | done | (with_reducible rfl))); (try simp only [List.getElem_toArray, List.getElem_cons_succ, List.getElem_cons_zero, Act.put, List.setIfInBounds_toArray, List.set_cons_zero, List.set_cons_succ])
      refine wpAnyH_take (i := 6) (v := ?_) rfl (by kernel_rfl) (by kernel_rfl) (by kernel_rfl) (fun _ _ _ h => h) (Or.inl ⟨by rfl, ?_⟩) (by assumption) ?_; rotate_left; (intro w hSw; (try dsimp only at hSw); go_simp; (first | done | (with_reducible rfl))); (try simp only [List.getElem_toArray, List.getElem_cons_succ, List.getElem_cons_zero, Act.put, List.setIfInBounds_toArray, List.set_cons_zero, List.set_cons_succ])
      refine wpAnyH_take (i := 10) (v := ?_) rfl (by kernel_rfl) (by kernel_rfl) (by kernel_rfl) (fun _ _ _ h => h) (Or.inl ⟨by rfl, ?_⟩) (by assumption) ?_; rotate_left; (intro w hSw; (try dsimp only at hSw); go_simp; (first | done | (with_reducible rfl))); (try simp only [List.getElem_toArray, List.getElem_cons_succ, List.getElem_cons_zero, Act.put, List.setIfInBounds_toArray, List.set_cons_zero, List.set_cons_succ])
      refine wpAnyH_take (i := 2) (v := ?_) rfl (by kernel_rfl) (by kernel_rfl) (by kernel_rfl) (fun _ _ _ h => h) (Or.inl ⟨by rfl, ?_⟩) (by assumption) ?_; rotate_left; (intro w hSw; (try dsimp only at hSw); go_simp; (first | done | (with_reducible rfl))); (try simp only [List.getElem_toArray, List.getElem_cons_succ, List.getElem_cons_zero, Act.put, List.setIfInBounds_toArray, List.set_cons_zero, List.set_cons_succ])
      refine wpAnyH_take (i := 3) (v := ?_) rfl (by kernel_rfl) (by kernel_rfl) (by kernel_rfl) (fun _ _ _ h => h) (Or.inl ⟨by rfl, ?_⟩) (by assumption) ?_; rotate_left; (intro w hSw; (try dsimp only at hSw); go_simp; (first | done | (with_reducible rfl))); (try simp only [List.getElem_toArray, List.getElem_cons_succ, List.getElem_cons_zero, Act.put, List.setIfInBounds_toArray, List.set_cons_zero, List.set_cons_succ])
      apply share
      · intro hrest
        refine wpAnyH_ready (rs := [7, 11]) (by kernel_rfl) (by simp) ?_
        refine AllReadyH.cons rfl (fun K hK => ?_) (AllReadyH.cons rfl (fun K hK => ?_) AllReadyH.nil)
        · go_simp
          go_wp2_with fail
          focus
            refine hK.out _ _ trivial (fun _ => ?_)
            clear hK K
            (try simp only [List.getElem_toArray, List.getElem_cons_succ, List.getElem_cons_zero, Act.put, List.setIfInBounds_toArray, List.set_cons_zero, List.set_cons_succ])
            refine wpAnyH_ready (rs := [11]) (by kernel_rfl) (by simp) ?_; refine AllReadyH.cons rfl (fun K hK => ?_) AllReadyH.nil
            go_simp
            go_wp2_with fail
            refine hK.out _ _ trivial (fun _ => ?_)
            clear hK K
            (try simp only [List.getElem_toArray, List.getElem_cons_succ, List.getElem_cons_zero, Act.put, List.setIfInBounds_toArray, List.set_cons_zero, List.set_cons_succ])
            refine wpAnyH_take (i := 12) (v := ?_) rfl (by kernel_rfl) (by kernel_rfl) (by kernel_rfl) (fun _ _ _ h => h) (Or.inl ⟨by rfl, ?_⟩) (by assumption) ?_; rotate_left; (intro w hSw; (try dsimp only at hSw); go_simp; (first | done | (with_reducible rfl))); (try simp only [List.getElem_toArray, List.getElem_cons_succ, List.getElem_cons_zero, Act.put, List.setIfInBounds_toArray, List.set_cons_zero, List.set_cons_succ])
            refine wpAnyH_ready (rs := [13]) (by kernel_rfl) (by simp) ?_; refine AllReadyH.cons rfl (fun K hK => ?_) AllReadyH.nil
            go_simp
            go_wp2_with fail
            refine hK.out _ _ trivial (fun _ => ?_)
            clear hK K
            (try simp only [List.getElem_toArray, List.getElem_cons_succ, List.getElem_cons_zero, Act.put, List.setIfInBounds_toArray, List.set_cons_zero, List.set_cons_succ])
            refine wpAnyH_take (i := 14) (v := ?_) rfl (by kernel_rfl) (by kernel_rfl) (by kernel_rfl) (fun _ _ _ h => h) (Or.inl ⟨by rfl, ?_⟩) (by assumption) ?_; rotate_left; (intro w hSw; (try dsimp only at hSw); go_simp; (first | done | (with_reducible rfl))); (try simp only [List.getElem_toArray, List.getElem_cons_succ, List.getElem_cons_zero, Act.put, List.setIfInBounds_toArray, List.set_cons_zero, List.set_cons_succ])
            refine wpAnyH_ready (rs := [15]) (by kernel_rfl) (by simp) ?_; refine AllReadyH.cons rfl (fun K hK => ?_) AllReadyH.nil
            go_simp
            go_wp2_with fail
            refine hK.out _ _ trivial (fun _ => ?_)
            clear hK K
            (try simp only [List.getElem_toArray, List.getElem_cons_succ, List.getElem_cons_zero, Act.put, List.setIfInBounds_toArray, List.set_cons_zero, List.set_cons_succ])
            refine wpAnyH_done (by kernel_rfl) ?_ _
            exact hrest
        · go_simp
          go_wp2_with fail
          focus
            refine hK.out _ _ trivial (fun _ => ?_)
            clear hK K
            (try simp only [List.getElem_toArray, List.getElem_cons_succ, List.getElem_cons_zero, Act.put, List.setIfInBounds_toArray, List.set_cons_zero, List.set_cons_succ])
            refine wpAnyH_ready (rs := [7]) (by kernel_rfl) (by simp) ?_; refine AllReadyH.cons rfl (fun K hK => ?_) AllReadyH.nil
            go_simp
            go_wp2_with fail
            refine hK.out _ _ trivial (fun _ => ?_)
            clear hK K
            (try simp only [List.getElem_toArray, List.getElem_cons_succ, List.getElem_cons_zero, Act.put, List.setIfInBounds_toArray, List.set_cons_zero, List.set_cons_succ])
            refine wpAnyH_take (i := 12) (v := ?_) rfl (by kernel_rfl) (by kernel_rfl) (by kernel_rfl) (fun _ _ _ h => h) (Or.inl ⟨by rfl, ?_⟩) (by assumption) ?_; rotate_left; (intro w hSw; (try dsimp only at hSw); go_simp; (first | done | (with_reducible rfl))); (try simp only [List.getElem_toArray, List.getElem_cons_succ, List.getElem_cons_zero, Act.put, List.setIfInBounds_toArray, List.set_cons_zero, List.set_cons_succ])
            refine wpAnyH_ready (rs := [13]) (by kernel_rfl) (by simp) ?_; refine AllReadyH.cons rfl (fun K hK => ?_) AllReadyH.nil
            go_simp
            go_wp2_with fail
            refine hK.out _ _ trivial (fun _ => ?_)
            clear hK K
            (try simp only [List.getElem_toArray, List.getElem_cons_succ, List.getElem_cons_zero, Act.put, List.setIfInBounds_toArray, List.set_cons_zero, List.set_cons_succ])
            refine wpAnyH_take (i := 14) (v := ?_) rfl (by kernel_rfl) (by kernel_rfl) (by kernel_rfl) (fun _ _ _ h => h) (Or.inl ⟨by rfl, ?_⟩) (by assumption) ?_; rotate_left; (intro w hSw; (try dsimp only at hSw); go_simp; (first | done | (with_reducible rfl))); (try simp only [List.getElem_toArray, List.getElem_cons_succ, List.getElem_cons_zero, Act.put, List.setIfInBounds_toArray, List.set_cons_zero, List.set_cons_succ])
            refine wpAnyH_ready (rs := [15]) (by kernel_rfl) (by simp) ?_; refine AllReadyH.cons rfl (fun K hK => ?_) AllReadyH.nil
            go_simp
            go_wp2_with fail
            refine hK.out _ _ trivial (fun _ => ?_)
            clear hK K
            (try simp only [List.getElem_toArray, List.getElem_cons_succ, List.getElem_cons_zero, Act.put, List.setIfInBounds_toArray, List.set_cons_zero, List.set_cons_succ])
            refine wpAnyH_done (by kernel_rfl) ?_ _
            exact hrest
      have hg1 : w.grownBy ((WD.setCell ⟨g, i, none⟩ (.int .u8 (y.toNat : Int))).setCell ⟨g, j, none⟩ (.int .u8 (x.toNat : Int))) (some g) := grown_trans (grown_trans hgD (grown_set WD g i _)) (grown_set _ g j _)
      clear hst1 hc2 hf2 hfi hOD hgD
      go_wp2_with fail
      have hji : (n : Int) - 1 - ((i + 1 : Nat) : Int) = (j : Int) - 1 := by have := HJ.out; have := HL.out; omega
      exact ⟨⟨i + 1, by omega, by go_num, by rw [hji], hst2, hg1⟩, by simp [intOf]; omega⟩
    · have hge : ¬ ((i : Int) < (n : Int) - 1 - (i : Int)) := by omega
      have hr : revL l i = l.reverse := revL_end (by have := HL.out; omega) (by have := HL.out; omega)
      rw [hr] at hO
      go_wp2_with fail
      go_end0
      exact ⟨rfl, hO, hg⟩

end Go.Proofs.Ytfcacplecapgfaa
