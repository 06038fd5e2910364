/- Contracts: stripe.Length, the law's code, stripe.Cut's closure. -/
import Derived.Test.YtibidlgikecelaaDoorR8
namespace Go.Proofs.YtibidlgikecelaaDoor
open Go.RowKit
set_option linter.unusedVariables false
set_option linter.unusedSimpArgs false

/-- How long a shard is. -/
def lenS (K s : Nat) : Nat := 8 * max 1 ((s + K * 8 - 1) / (K * 8))

theorem wrap64_in (x : Int) (h : -1000000 ≤ x) (h2 : x ≤ 1000000) : wrap64 x = x := by unfold wrap64; omega

set_option maxHeartbeats 400000 in
theorem length_calls {w : World} {K M s : Nat} (hK : 1 ≤ K) (hKM : K + M ≤ 255) (hs : s ≤ 400) :
    Calls Tryd.prog 40 #[.agg #[.int .i64 (K : Int), .int .i64 (M : Int)], .int .i64 (s : Int)] w (RetV w (.int .i64 (lenS K s : Int))) := by
  have hb1 := below1' w (.cells #[.int .i64 (K : Int), .int .i64 (M : Int)] 38)
  have hk0 : (w.alloc (.cells #[.int .i64 (K : Int), .int .i64 (M : Int)] 38)).cell? ⟨w.heap.size, 0, none⟩ = some (.int .i64 (K : Int)) := cell_of_row _ _ 0 _ _ (0, 0) (heap_alloc_new w _)
  have hk1 : (w.alloc (.cells #[.int .i64 (K : Int), .int .i64 (M : Int)] 38)).cell? ⟨w.heap.size, 1, none⟩ = some (.int .i64 (M : Int)) := cell_of_row _ _ 1 _ _ (0, 0) (heap_alloc_new w _)
  have hs0 : decide ((s : Int) < 0) = false := by simp
  have hs4 : decide ((400 : Int) < (s : Int)) = false := by simp; omega
  go_enter Tryd.func40, Tryd.ntmps40
  go_wp2_with fail
  refine (can_calls hK hKM).mono ?_
  rintro e w' ⟨rfl, hb⟩
  have hk0' := (hb.cell (p := ⟨w.heap.size, 0, none⟩) (block_lt hk0)).trans hk0
  have hq : ((s : Int) + (K : Int) * 8 - 1) / ((K : Int) * 8) = (((s + K * 8 - 1) / (K * 8) : Nat) : Int) := by
    rw [Int.natCast_ediv]
    congr 1
    omega
  have hql : (s + K * 8 - 1) / (K * 8) ≤ 400 + 255 * 8 := Nat.le_trans (Nat.div_le_self _ _) (by omega)
  have HQ := Lib.hid hq
  clear hq
  go_wp2_with fail
  all_goals
    have hq := HQ.out
    rw [hq] at h
    try rw [hq]
    go_ret
    refine ⟨?_, hb1.trans (hb.mono hb1.size)⟩
    clear hq HQ
    unfold lenS
    generalize (s + K * 8 - 1) / (K * 8) = q at *
    congr 1
    show Value.int .i64 (wrap64 _) = _
    rw [wrap64_in _ (by omega) (by omega)]
    congr 1
    omega

set_option maxHeartbeats 400000 in
theorem code_calls {w : World} {K M : Nat} {x y : Int} (HK : Hid (wrap64 (1 + wrap64 ((IntKind.u64.wrap x).tmod 12)) = (K : Int))) (HM : Hid (wrap64 ((IntKind.u64.wrap y).tmod 6) = (M : Int))) :
    Calls Tryd.prog 38 #[.int .i64 x, .int .i64 y] w (RetV w (.agg #[.int .i64 (K : Int), .int .i64 (M : Int)])) := by
  go_enter Tryd.func38, Tryd.ntmps38
  go_wp2_with fail
  have eK := HK.out
  have eM := HM.out
  rw [eK, eM]
  clear eK eM HK HM
  refine bodyPost_ret (results_cell_row rfl _ _ w.heap.size 38 _ (0, 0) _ rfl (heap_alloc_new _ _) Tryd.underlying38 rfl (by kernel_rfl)) rfl ?_
  exact ⟨rfl, below1' _ _⟩

/-- What one unit's copy leaves. -/
def cut1 (lb : List B8) (at' off : Nat) (f : Nat → B8) : Nat → B8 := fun j => if off ≤ j ∧ j < off + 8 ∧ at' + (j - off) < lb.length then lb.getD (at' + (j - off)) 0#8 else f j
theorem cut1_row {lb : List B8} {at' off nn : Nat} {f : Nat → B8} (h : off + 8 ≤ nn) : rowL nn (cut1 lb at' off f) = (rowL nn f).take off ++ ((lb.drop at').take 8 ++ (rowL nn f).drop (off + ((lb.drop at').take 8).length)) := by
  have hL : ((lb.drop at').take 8).length = min 8 (lb.length - at') := by simp
  rw [hL]
  apply List.ext_getElem?
  intro k
  rw [List.getElem?_append]
  simp only [List.length_take, length_rowL]
  by_cases hk : k < nn
  · rw [rowL_get hk]
    by_cases h1 : k < off
    · rw [if_pos (by omega), List.getElem?_take, if_pos h1, rowL_get hk]
      unfold cut1
      rw [if_neg (by omega)]
    · rw [if_neg (by omega), List.getElem?_append, hL, Nat.min_eq_left (by omega : off ≤ nn)]
      by_cases h2 : k - off < min 8 (lb.length - at')
      · rw [if_pos h2, List.getElem?_take, if_pos (by omega), List.getElem?_drop]
        unfold cut1
        rw [if_pos (by omega), List.getD_eq_getElem?_getD, List.getElem?_eq_getElem (by omega)]
        rfl
      · rw [if_neg h2, List.getElem?_drop]
        have e : off + min 8 (lb.length - at') + (k - off - min 8 (lb.length - at')) = k := by omega
        rw [e, rowL_get hk]
        unfold cut1
        rw [if_neg (by omega)]
  · rw [List.getElem?_eq_none (by simp; omega), if_neg (by omega), List.getElem?_eq_none]
    simp
    omega

set_option maxHeartbeats 800000 in
set_option maxRecDepth 100000 in
theorem cut1_calls {w : World} {pb pd bk g at' k off c nn K : Nat} {A : Option Addr} {lb : List B8} {f : Nat → B8} (hpb : w.cell? ⟨pb, 0, none⟩ = some (.slice A lb.length c)) (hA : At w A (bys lb)) (hc : lb.length ≤ c) (hla : lb.length ≤ 400)
    (hpd : w.cell? ⟨pd, 0, none⟩ = some (.slice (some ⟨g, 0, none⟩) K K)) (hk : k < K) (hg : w.cell? ⟨g, k, none⟩ = some (.slice (some ⟨bk, 0, none⟩) nn nn)) (hR : RowB w bk (rowL nn f)) (hoff : off + 8 ≤ nn) (hnn : nn ≤ 1000) (hat : at' ≤ 300000) (hK : K ≤ 255) (hbb : pb ≠ bk) (hbd : pd ≠ bk) (hbg : g ≠ bk) :
    Calls Tryd.prog 74 #[.int .i64 (at' : Int), .int .i64 (k : Int), .int .i64 (off : Int), .pointer (some ⟨pb, 0, none⟩), .pointer (some ⟨pd, 0, none⟩)] w
      fun e w' => e = .returned (.tuple #[]) ∧ w.grownBy w' (some bk) ∧ RowB w' bk (rowL nn (cut1 lb at' off f)) := by
  by_cases hlt : at' < lb.length
  · have hlti : (at' : Int) < (lb.length : Int) := by omega
    go_enter Tryd.func74, Tryd.ntmps74
    go_wp2_with fail
    have hpbD : w.drew.cell? ⟨pb, 0, none⟩ = some (.slice A lb.length c) := hpb
    have hpdD : w.drew.cell? ⟨pd, 0, none⟩ = some (.slice (some ⟨g, 0, none⟩) K K) := hpd
    have hgD : w.drew.cell? ⟨g, k, none⟩ = some (.slice (some ⟨bk, 0, none⟩) nn nn) := hg
    have hRD : RowB w.drew bk (rowL nn f) := hR
    have hAD : At w.drew A (bys lb) := hA.below (belowN 1 : Below w.heap.size w (w.drewN 1))
    have hgr : w.grownBy w.drew (some bk) := grown_of_below (belowN 1) _
    refine wp_region_held_drew (S := fun w' => w'.cell? ⟨pb, 0, none⟩ = some (.slice A lb.length c) ∧ w'.cell? ⟨pd, 0, none⟩ = some (.slice (some ⟨g, 0, none⟩) K K) ∧ w'.cell? ⟨g, k, none⟩ = some (.slice (some ⟨bk, 0, none⟩) nn nn)) (by kernel_rfl) ⟨hpbD, hpdD, hgD⟩ (fun hHeld => ?_)
    generalize w.drew = WD at *
    clear hpb hpd hg hR
    obtain ⟨bA, oA, rfl⟩ := some_of_at hA (by simp; omega)
    clear hA
    have hsl1 : 0 ≤ (off : Int) + 8 ∧ (off : Int) + 8 ≤ (nn : Int) := by omega
    have hsl2 : off ≤ off + 8 := by omega
    have hsl3 : ((off : Int) + 8).toNat = off + 8 := by omega
    have hsl4 : ¬ nn = off := by omega
    have hsl5 : ¬ c = at' := by omega
    have hsl6 : at' ≤ lb.length := by omega
    have hki : (k : Int) < (K : Int) := by omega
    have hwk : IntKind.i64.wrap (k : Int) = (k : Int) := IntWalk.i64_in _ (by omega)
    have hwo : IntKind.i64.wrap ((off : Int) + 8) = (off : Int) + 8 := IntWalk.i64_in _ (by omega)
    refine wpAnyH_take (i := 0) (v := ?_) rfl (by kernel_rfl) (by kernel_rfl) (by kernel_rfl) (fun _ _ _ h => h) (Or.inl ⟨by rfl, ?_⟩) (by assumption) ?_; rotate_left; (intro w hSw; (try dsimp only at hSw); go_simp; (first | done | (with_reducible rfl))); (try simp only [List.getElem_toArray, List.getElem_cons_succ, List.getElem_cons_zero, Act.put, List.setIfInBounds_toArray, List.set_cons_zero, List.set_cons_succ])
    refine wpAnyH_take (i := 1) (v := ?_) rfl (by kernel_rfl) (by kernel_rfl) (by kernel_rfl) (fun _ _ _ h => h) (Or.inl ⟨by rfl, ?_⟩) (by assumption) ?_; rotate_left; (intro w hSw; (try dsimp only at hSw); go_simp; (first | done | (with_reducible rfl))); (try simp only [List.getElem_toArray, List.getElem_cons_succ, List.getElem_cons_zero, Act.put, List.setIfInBounds_toArray, List.set_cons_zero, List.set_cons_succ])
    refine wpAnyH_take (i := 2) (v := ?_) rfl (by kernel_rfl) (by kernel_rfl) (by kernel_rfl) (fun _ _ _ h => h) (Or.inl ⟨by rfl, ?_⟩) (by assumption) ?_; rotate_left; (intro w hSw; (try dsimp only at hSw); go_simp; (first | done | (with_reducible rfl))); (try simp only [List.getElem_toArray, List.getElem_cons_succ, List.getElem_cons_zero, Act.put, List.setIfInBounds_toArray, List.set_cons_zero, List.set_cons_succ])
    refine wpAnyH_take (i := 3) (v := ?_) rfl (by kernel_rfl) (by kernel_rfl) (by kernel_rfl) (fun _ _ _ h => h) (Or.inl ⟨by rfl, ?_⟩) (by assumption) ?_; rotate_left; (intro w hSw; (try dsimp only at hSw); go_simp; (first | done | (with_reducible rfl))); (try simp only [List.getElem_toArray, List.getElem_cons_succ, List.getElem_cons_zero, Act.put, List.setIfInBounds_toArray, List.set_cons_zero, List.set_cons_succ])
    refine wpAnyH_take (i := 4) (v := ?_) rfl (by kernel_rfl) (by kernel_rfl) (by kernel_rfl) (fun _ _ _ h => h) (Or.inl ⟨by rfl, ?_⟩) (by assumption) ?_; rotate_left; (intro w hSw; (try dsimp only at hSw); go_simp; (first | done | (with_reducible rfl))); (try simp only [List.getElem_toArray, List.getElem_cons_succ, List.getElem_cons_zero, Act.put, List.setIfInBounds_toArray, List.set_cons_zero, List.set_cons_succ])
    refine wpAnyH_take (i := 5) (v := ?_) rfl (by kernel_rfl) (by kernel_rfl) (by kernel_rfl) (fun _ _ _ h => h) (Or.inl ⟨by rfl, ?_⟩) (by assumption) ?_; rotate_left; (intro w hSw; (try dsimp only at hSw); go_simp; (first | done | (with_reducible rfl))); (try simp only [List.getElem_toArray, List.getElem_cons_succ, List.getElem_cons_zero, Act.put, List.setIfInBounds_toArray, List.set_cons_zero, List.set_cons_succ])
    refine wpAnyH_take (i := 6) (v := ?_) rfl (by kernel_rfl) (by kernel_rfl) (by kernel_rfl) (fun _ _ _ h => h) (Or.inl ⟨by rfl, ?_⟩) (by assumption) ?_; rotate_left; (intro w hSw; (try dsimp only at hSw); go_simp; (first | done | (with_reducible rfl))); (try simp only [List.getElem_toArray, List.getElem_cons_succ, List.getElem_cons_zero, Act.put, List.setIfInBounds_toArray, List.set_cons_zero, List.set_cons_succ])
    refine wpAnyH_take (i := 7) (v := ?_) rfl (by kernel_rfl) (by kernel_rfl) (by kernel_rfl) (fun _ _ _ h => h) (Or.inl ⟨by rfl, ?_⟩) (by assumption) ?_; rotate_left; (intro w hSw; (try dsimp only at hSw); go_simp; (first | done | (with_reducible rfl))); (try simp only [List.getElem_toArray, List.getElem_cons_succ, List.getElem_cons_zero, Act.put, List.setIfInBounds_toArray, List.set_cons_zero, List.set_cons_succ])
    refine wpAnyH_take (i := 8) (v := ?_) rfl (by kernel_rfl) (by kernel_rfl) (by kernel_rfl) (fun _ _ _ h => h) (Or.inl ⟨by rfl, ?_⟩) (by assumption) ?_; rotate_left; (intro w hSw; (try dsimp only at hSw); go_simp; (first | done | (with_reducible rfl))); (try simp only [List.getElem_toArray, List.getElem_cons_succ, List.getElem_cons_zero, Act.put, List.setIfInBounds_toArray, List.set_cons_zero, List.set_cons_succ])
    refine wpAnyH_take (i := 9) (v := ?_) rfl (by kernel_rfl) (by kernel_rfl) (by kernel_rfl) (fun _ _ _ h => h) (Or.inl ⟨by rfl, ?_⟩) (by assumption) ?_; rotate_left; (intro w hSw; (try dsimp only at hSw); go_simp; (first | done | (with_reducible rfl))); (try simp only [List.getElem_toArray, List.getElem_cons_succ, List.getElem_cons_zero, Act.put, List.setIfInBounds_toArray, List.set_cons_zero, List.set_cons_succ])
    refine wpAnyH_take (i := 10) (v := ?_) rfl (by kernel_rfl) (by kernel_rfl) (by kernel_rfl) (fun _ _ _ h => h) (Or.inl ⟨by rfl, ?_⟩) (by assumption) ?_; rotate_left; (intro w hSw; (try dsimp only at hSw); go_simp; (first | done | (with_reducible rfl))); (try simp only [List.getElem_toArray, List.getElem_cons_succ, List.getElem_cons_zero, Act.put, List.setIfInBounds_toArray, List.set_cons_zero, List.set_cons_succ])
    have hA2 : At WD (some ⟨bA, oA + at', none⟩) (bys ((lb.drop at').take 8)) := by
      have h := (hAD.drop at' c (by simpa using hc)).take 8
      unfold cutA at h
      rw [if_neg hsl5] at h
      by_cases h0 : at' = 0
      · subst h0
        simpa [bys, List.map_drop, List.map_take, Addr.add] using h
      · simpa [bys, List.map_drop, List.map_take, Addr.add, h0] using h
    refine wpAnyH_ready (rs := [11]) (by kernel_rfl) (by simp) ?_; refine AllReadyH.cons rfl (fun K hK => ?_) AllReadyH.nil
    refine step_copy_row rfl (.tmp 19) (.tmp 22) rfl rfl rfl hRD hA2 (by rw [List.length_take, List.length_drop]; exact Nat.min_comm _ _) (by simp; omega) (by simp; omega) ?_
    intro w4 hr4 hg4
    refine hK.out _ _ ⟨hg4.cell hpbD (by simpa using hbb), hg4.cell hpdD (by simpa using hbd), hg4.cell hgD (by simpa using hbg)⟩ (fun hHeld => ?_)
    clear hK K
    (try simp only [List.getElem_toArray, List.getElem_cons_succ, List.getElem_cons_zero, Act.put, List.setIfInBounds_toArray, List.set_cons_zero, List.set_cons_succ])
    refine wpAnyH_done (by kernel_rfl) ?_ _
    rw [← cut1_row hoff] at hr4
    go_end0
    exact ⟨rfl, grown_trans hgr hg4, hr4⟩
  · have hlti : ¬ (at' : Int) < (lb.length : Int) := by omega
    have hf : cut1 lb at' off f = f := by
      funext j
      unfold cut1
      rw [if_neg (by omega)]
    rw [hf]
    clear hf
    go_enter Tryd.func74, Tryd.ntmps74
    go_wp2_with fail
    go_end0
    exact ⟨rfl, grown_refl _ _, hR⟩

end Go.Proofs.YtibidlgikecelaaDoor
