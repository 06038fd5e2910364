/- Noughts appended to a text of one's own; how long shards are, of anything. -/
import Derived.Test.YtibidlgikecelaaDoorSA
import Derived.Test.YtibidlgikecelaaDoorT18
import Derived.Lib.AppendZerosOnto
namespace Go.Proofs.YtibidlgikecelaaDoor
open Go.RowKit
set_option linter.unusedVariables false
set_option linter.unusedSimpArgs false

theorem zeroCells_bys (k : Nat) : Builtin.zeroCells (Value.int .u8 0).cells k = (bys (List.replicate k 0#8)).toArray := by
  apply Array.ext'
  unfold Builtin.zeroCells
  rw [show (Value.int .u8 0).cells = #[Value.int .u8 0] from rfl]
  simp [bys, bv]
  apply List.ext_getElem?
  intro i
  by_cases hi : i < k
  · simp [hi, Nat.mod_one]
  · simp [hi]

theorem run_app_noughts {w : World} {B n k g c : Nat} {l : List B8} (ty : TypeId) (hown : w.ownsRow B 5 1 (.slice (some ⟨g, 0, none⟩) n c) n (bys l)) (hk : n + k ≤ 1000000) (hB : B ≤ w.heap.size) :
    ∃ A' c' w', (Builtin.append_ #[22, 3] ty #[.slice (some ⟨g, 0, none⟩) n c, .int .i64 (k : Int)]).run Tryd.prog w = .ok (.slice A' (n + k) c') w' ∧ w'.ownsRow B 5 1 (.slice A' (n + k) c') (n + k) (bys (l ++ List.replicate k 0#8)) ∧ w.grownBy w' (some g) := by
  obtain ⟨i, hi, hz0, hz1, hz2⟩ := info_parts u8info
  have hl : l.length = n := by have := hown.1; simpa using this
  have hlen : (bys (l ++ List.replicate k 0#8)).length = (n + k) * 1 := by simp [hl]
  have hcells := hown.cells (g := g) rfl
  rcases hown.2 with ⟨hv, _⟩ | ⟨g', cap, cur, hv, hbg, hg, hnc, hcm, hcs, htake⟩
  · cases hv
  · injection hv with h1 h2 h3
    cases h1
    subst h3
    rw [Nat.mul_one] at hcs htake
    by_cases hroom : n + k ≤ c
    · have hst := run_storeCells_at Tryd.prog g n 5 (bys (List.replicate k 0#8)) 0 cur w hg (by simp [hcs]; omega) (bys_one _)
      simp only [Nat.add_zero] at hst
      have hw : IntKind.i64.wrap (k : Int) = k := by rw [IntKind.wrap_i64]; omega
      have hneg : ¬ ((k : Int) < 0) := by omega
      have h48i : ¬ (281474976710656 < (k : Int)) := by omega
      have hrun : (Builtin.append_ #[22, 3] ty #[.slice (some ⟨g, 0, none⟩) n c, .int .i64 (k : Int)]).run Tryd.prog w = .ok (.slice (some ⟨g, 0, none⟩) (n + k) c) (w.setRow g (cur.toList.take n ++ bys (List.replicate k 0#8) ++ cur.toList.drop (n + (bys (List.replicate k 0#8)).length)).toArray) := by
        by_cases hk0 : k = 0
        · subst hk0
          have hst0 := hst
          simp at hst0
          simp [Builtin.append_, run_underlying Tryd.underlying22, run_underlying Tryd.underlying3, sizeOf, typeInfo, zeroValue, hi, hz0, hz1, hz2, asInt, asIntOf, hroom, IntKind.wrap_i64, Addr.add_lit, hst0]
          intro hlt
          omega
        · simp [Builtin.append_, run_underlying Tryd.underlying22, run_underlying Tryd.underlying3, sizeOf, typeInfo, zeroValue, hi, hz0, hz1, hz2, asInt, asIntOf, hroom, hw, hneg, h48i, hk0, zeroCells_bys, Addr.add_lit, hst]
      refine ⟨_, _, _, hrun, ⟨hlen, .inr ⟨g, c, _, rfl, hbg, setRow_heap w g cur _ _ _ hg, hroom, hcm, ?_, ?_⟩⟩, ⟨rfl, rfl, rfl, by simp, fun k' _ hk' => setRow_other w g k' _ (fun e => hk' (by rw [e]))⟩⟩
      · simp [hcs]; omega
      · rw [htake, ← bys_append, ← hlen]
        exact List.take_left
    · have hk0 : 0 < k := by omega
      have hold := run_firstCells_some (P := Tryd.prog) w.drew 1 n ⟨g, 0, none⟩ n c (bys l) (by simp [hl]) (fun j u hu => hcells j u hu)
      have hr := Lib.run_append_grow_zeros (P := Tryd.prog) w 22 3 ty 5 i (.int .u8 0) .i64 .i64 Tryd.underlying22 Tryd.underlying3 hi hz0 (some ⟨g, 0, none⟩) n c (bys l) (by rw [hz1]; exact hold) k hk0 (by rw [hz1]; decide) (by omega) (by omega) (by rw [hz2]; omega) (growslice_fits (by omega) (by rw [hz2]; omega))
      have hge := grownCap_ge w (n + k) c 5
      have hcm2 : grownCap w (n + k) c 5 ≤ maxLen := grownCap_le_maxLen w (n + k) c 5 (by unfold maxLen; omega)
      refine ⟨_, _, _, hr, ⟨hlen, .inr ⟨w.heap.size, _, _, rfl, hB, heap_alloc_new w.drew _, hge, hcm2, ?_, ?_⟩⟩, ⟨rfl, rfl, rfl, by simp, fun k' hk' _ => heap_alloc_old w.drew _ (r := k') hk'⟩⟩
      · simp only [zeroCells_bys, Array.size_append, List.size_toArray, length_bys, List.length_replicate, hl]
        omega
      · simp only [zeroCells_bys, Array.toList_append, List.append_assoc]
        rw [← List.append_assoc, ← bys_append, ← hlen]
        exact List.take_left

theorem wp_app_noughts {w : World} {o : Oper} {a : Act} {K : Act → World → Prop} {Q : Exit → Act → World → Prop} (s x : Operand)
    (hop : o.op = Op.call { callee := Callee.builtin Builtin.append, args := #[s, x], argTypes := #[22, 3] })
    (B : Nat) {n k g c : Nat} {l : List B8} {z : Int} (hs : a.eval s = .slice (some ⟨g, 0, none⟩) n c) (hown : w.ownsRow B 5 1 (.slice (some ⟨g, 0, none⟩) n c) n (bys l)) (hx : a.eval x = .int .i64 z) (hz : z = (k : Int))
    (hk : n + k ≤ 1000000) (hB : B ≤ w.heap.size)
    (hK : ∀ A' c' w', w'.ownsRow B 5 1 (.slice A' (n + k) c') (n + k) (bys (l ++ List.replicate k 0#8)) → w.grownBy w' (some g) → K (a.put o.dst (.slice A' (n + k) c')) w') :
    o.wp Tryd.prog a w K Q := by
  subst hz
  obtain ⟨A', c', w', hrun, h1, h2⟩ := run_app_noughts o.type hown hk hB
  exact Lib.wp_append_run w s x 22 3 hop _ _ hs hx _ _ hrun (hK A' c' w' h1 h2)
theorem step_app_noughts {w : World} {ops : Array Oper} {E : Prop} {o : Oper} {a : Act} {K : Act → World → Prop} {Q : Exit → Act → World → Prop} (hg : o.guard = none) (s x : Operand)
    (hop : o.op = Op.call { callee := Callee.builtin Builtin.append, args := #[s, x], argTypes := #[22, 3] })
    (B : Nat) {n k g c : Nat} {l : List B8} {z : Int} (hs : a.eval s = .slice (some ⟨g, 0, none⟩) n c) (hown : w.ownsRow B 5 1 (.slice (some ⟨g, 0, none⟩) n c) n (bys l)) (hx : a.eval x = .int .i64 z) (hz : z = (k : Int))
    (hk : n + k ≤ 1000000) (hB : B ≤ w.heap.size)
    (hK : ∀ A' c' w', w'.ownsRow B 5 1 (.slice A' (n + k) c') (n + k) (bys (l ++ List.replicate k 0#8)) → w.grownBy w' (some g) → K (a.put o.dst (.slice A' (n + k) c')) w') :
    if Region.wanted o (yielded ops a.tmps) = true then o.wp Tryd.prog a w K Q else E := by
  rw [if_pos (by simp [Region.wanted, hg])]
  exact wp_app_noughts s x hop B hs hown hx hz hk hB hK

/-- How long shards are, of anything. -/
def lenB (K M s : Int) : Prop := codeB K M ∧ 0 ≤ s ∧ s ≤ 400
instance (K M s : Int) : Decidable (lenB K M s) := by unfold lenB; infer_instance
def lenZ (K M s : Int) : Int := if lenB K M s then (lenS K.toNat s.toNat : Int) else 0
def qS (K s : Nat) : Nat := max 1 ((s + K * 8 - 1) / (K * 8))
theorem lenS_q (K s : Nat) : lenS K s = 8 * qS K s := rfl
theorem quot_eq {K s : Nat} (hK : 1 ≤ K) : ((s : Int) + (K : Int) * 8 - 1) / ((K : Int) * 8) = (((s + K * 8 - 1) / (K * 8) : Nat) : Int) := by
  rw [Int.natCast_ediv]
  congr 1
  omega

set_option maxHeartbeats 400000 in
theorem stripes_calls {w : World} {K M s : Nat} (hK : 1 ≤ K) (hKM : K + M ≤ 255) (hs : s ≤ 400) :
    Calls Tryd.prog 80 #[.agg #[.int .i64 (K : Int), .int .i64 (M : Int)], .int .i64 (s : Int)] w (RetV w (.int .i64 (qS K s : Int))) := by
  obtain ⟨wa, hwa, hb1, hk0, hk1, hs1⟩ := code_box w (K : Int) (M : Int)
  have HWA := Lib.hid hwa
  clear hwa
  have hql : (s + K * 8 - 1) / (K * 8) ≤ 400 + 255 * 8 := Nat.le_trans (Nat.div_le_self _ _) (by omega)
  have HQ := Lib.hid (quot_eq (s := s) hK)
  have HR : Hid (qS K s = max 1 ((s + K * 8 - 1) / (K * 8))) := rfl
  generalize qS K s = r at *
  go_enter Tryd.func80, Tryd.ntmps80
  have hwa := HWA.out
  go_wp2_with fail
  all_goals
    go_ret
    refine ⟨ret_int ?_, by rw [← hwa]; exact hb1⟩
    have hq := HQ.out
    have hr := HR.out
    rw [hq] at h
    generalize (s + K * 8 - 1) / (K * 8) = q at *
    first | (show ((s : Int) + (K : Int) * 8 - 1) / ((K : Int) * 8) = (r : Int); rw [hq]; omega) | (show (1 : Int) = (r : Int); omega)

set_option maxHeartbeats 400000 in
theorem rlength_calls {w : World} {K M s : Nat} (hK : 1 ≤ K) (hKM : K + M ≤ 255) (hs : s ≤ 400) :
    Calls Tryd.prog 50 #[.agg #[.int .i64 (K : Int), .int .i64 (M : Int)], .int .i64 (s : Int)] w (RetV w (.int .i64 (lenS K s : Int))) := by
  obtain ⟨wa, hwa, hb1, hk0, hk1, hs1⟩ := code_box w (K : Int) (M : Int)
  have HWA := Lib.hid hwa
  clear hwa
  have hs0 : decide ((s : Int) < 0) = false := by simp
  have hs4 : decide ((400 : Int) < (s : Int)) = false := by simp; omega
  have hql : qS K s ≤ 400 + 255 * 8 := by
    unfold qS
    have : (s + K * 8 - 1) / (K * 8) ≤ 400 + 255 * 8 := Nat.le_trans (Nat.div_le_self _ _) (by omega)
    omega
  rw [lenS_q]
  have HST := fun (W : World) => Lib.hid (stripes_calls (w := W) hK hKM hs)
  generalize qS K s = q at *
  have HCAN := Lib.hid (rcan_calls (w := wa) hK hKM)
  go_enter Tryd.func50, Tryd.ntmps50
  go_wp2_with fail
  have hwa := HWA.out
  rw [← hwa]
  clear hwa
  refine HCAN.out.mono ?_
  rintro e w3 ⟨rfl, hb3⟩
  have hB3 := hb1.trans (hb3.mono hb1.size)
  have hk03 := (hb3.cell (p := ⟨w.heap.size, 0, none⟩) (block_lt hk0)).trans hk0
  have hk13 := (hb3.cell (p := ⟨w.heap.size, 1, none⟩) (block_lt hk1)).trans hk1
  clear hk0 hk1 HCAN
  go_wp2_with fail
  refine (HST _).out.mono ?_
  rintro e w4 ⟨rfl, hb4⟩
  go_wp2_with fail
  go_ret
  exact ⟨ret_int (by omega), hB3.trans (hb4.mono hB3.size)⟩

set_option maxHeartbeats 800000 in
set_option maxRecDepth 100000 in
theorem length_bad {w : World} {K M s : Int} (h : ¬ lenB K M s) : Calls Tryd.prog 40 #[.agg #[.int .i64 K, .int .i64 M], .int .i64 s] w (RetV w (.int .i64 0)) := by
  obtain ⟨wb, hwb, hB2, hk0, hk1, hsz⟩ := code_box w K M
  have HWB := Lib.hid hwb
  clear hwb
  have HCAN := Lib.hid (can_x (w := wb) K M)
  by_cases hc : codeB K M
  · rw [decide_eq_true hc] at HCAN
    by_cases hs0 : s < 0
    · have d1 : decide (s < (0 : Int)) = true := decide_eq_true hs0
      clear h hc
      go_enter Tryd.func40, Tryd.ntmps40
      go_wp2_with fail
      have hwb := HWB.out
      rw [← hwb]
      clear hwb
      refine HCAN.out.mono ?_
      rintro e w3 ⟨rfl, hb3⟩
      go_wp2_with fail
      go_ret
      exact ⟨rfl, hB2.trans (hb3.mono hB2.size)⟩
    · have d1 : decide (s < (0 : Int)) = false := decide_eq_false hs0
      have hs4 : 400 < s := by
        rcases Int.lt_or_le 400 s with h4 | h4
        · exact h4
        · exact absurd ⟨hc, by omega, h4⟩ h
      have d2 : decide ((400 : Int) < s) = true := decide_eq_true hs4
      clear h hc
      go_enter Tryd.func40, Tryd.ntmps40
      go_wp2_with fail
      have hwb := HWB.out
      rw [← hwb]
      clear hwb
      refine HCAN.out.mono ?_
      rintro e w3 ⟨rfl, hb3⟩
      go_wp2_with fail
      go_ret
      exact ⟨rfl, hB2.trans (hb3.mono hB2.size)⟩
  · rw [decide_eq_false hc] at HCAN
    clear h hc
    go_enter Tryd.func40, Tryd.ntmps40
    go_wp2_with fail
    have hwb := HWB.out
    rw [← hwb]
    clear hwb
    refine HCAN.out.mono ?_
    rintro e w3 ⟨rfl, hb3⟩
    go_wp2_with fail
    go_ret
    exact ⟨rfl, hB2.trans (hb3.mono hB2.size)⟩
set_option maxHeartbeats 800000 in
set_option maxRecDepth 100000 in
theorem rlength_bad {w : World} {K M s : Int} (h : ¬ lenB K M s) : Calls Tryd.prog 50 #[.agg #[.int .i64 K, .int .i64 M], .int .i64 s] w (RetV w (.int .i64 0)) := by
  obtain ⟨wb, hwb, hB2, hk0, hk1, hsz⟩ := code_box w K M
  have HWB := Lib.hid hwb
  clear hwb
  have HCAN := Lib.hid (rcan_x (w := wb) K M)
  by_cases hc : codeB K M
  · rw [decide_eq_true hc] at HCAN
    by_cases hs0 : s < 0
    · have d1 : decide (s < (0 : Int)) = true := decide_eq_true hs0
      clear h hc
      go_enter Tryd.func50, Tryd.ntmps50
      go_wp2_with fail
      have hwb := HWB.out
      rw [← hwb]
      clear hwb
      refine HCAN.out.mono ?_
      rintro e w3 ⟨rfl, hb3⟩
      go_wp2_with fail
      go_ret
      exact ⟨rfl, hB2.trans (hb3.mono hB2.size)⟩
    · have d1 : decide (s < (0 : Int)) = false := decide_eq_false hs0
      have hs4 : 400 < s := by
        rcases Int.lt_or_le 400 s with h4 | h4
        · exact h4
        · exact absurd ⟨hc, by omega, h4⟩ h
      have d2 : decide ((400 : Int) < s) = true := decide_eq_true hs4
      clear h hc
      go_enter Tryd.func50, Tryd.ntmps50
      go_wp2_with fail
      have hwb := HWB.out
      rw [← hwb]
      clear hwb
      refine HCAN.out.mono ?_
      rintro e w3 ⟨rfl, hb3⟩
      go_wp2_with fail
      go_ret
      exact ⟨rfl, hB2.trans (hb3.mono hB2.size)⟩
  · rw [decide_eq_false hc] at HCAN
    clear h hc
    go_enter Tryd.func50, Tryd.ntmps50
    go_wp2_with fail
    have hwb := HWB.out
    rw [← hwb]
    clear hwb
    refine HCAN.out.mono ?_
    rintro e w3 ⟨rfl, hb3⟩
    go_wp2_with fail
    go_ret
    exact ⟨rfl, hB2.trans (hb3.mono hB2.size)⟩
theorem length_x {w : World} (K M s : Int) : Calls Tryd.prog 40 #[.agg #[.int .i64 K, .int .i64 M], .int .i64 s] w (RetV w (.int .i64 (lenZ K M s))) := by
  unfold lenZ
  by_cases h : lenB K M s
  · rw [if_pos h]
    obtain ⟨⟨c1, c2, c3, c4⟩, h1, h2⟩ := h
    obtain ⟨K, rfl⟩ := Int.eq_ofNat_of_zero_le (by omega : 0 ≤ K)
    obtain ⟨M, rfl⟩ := Int.eq_ofNat_of_zero_le (by omega : 0 ≤ M)
    obtain ⟨s, rfl⟩ := Int.eq_ofNat_of_zero_le h1
    exact length_calls (by omega) (by omega) (by omega)
  · rw [if_neg h]
    exact length_bad h
theorem rlength_x {w : World} (K M s : Int) : Calls Tryd.prog 50 #[.agg #[.int .i64 K, .int .i64 M], .int .i64 s] w (RetV w (.int .i64 (lenZ K M s))) := by
  unfold lenZ
  by_cases h : lenB K M s
  · rw [if_pos h]
    obtain ⟨⟨c1, c2, c3, c4⟩, h1, h2⟩ := h
    obtain ⟨K, rfl⟩ := Int.eq_ofNat_of_zero_le (by omega : 0 ≤ K)
    obtain ⟨M, rfl⟩ := Int.eq_ofNat_of_zero_le (by omega : 0 ≤ M)
    obtain ⟨s, rfl⟩ := Int.eq_ofNat_of_zero_le h1
    exact rlength_calls (by omega) (by omega) (by omega)
  · rw [if_neg h]
    exact rlength_bad h

end Go.Proofs.YtibidlgikecelaaDoor
