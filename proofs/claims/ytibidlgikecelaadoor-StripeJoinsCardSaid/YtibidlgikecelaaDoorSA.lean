/- Contracts: stripe.Length, the law's code, stripe.Cut's closure. Contract: stripe.units with stripe.Cut's closure. Contract: stripe.Cut. -/
import Derived.Test.YtibidlgikecelaaDoorR8
namespace Go.Proofs.YtibidlgikecelaaDoor
open Go.RowKit
set_option linter.unusedVariables false
set_option linter.unusedSimpArgs false

/-- How long a shard is. -/
def lenS (K s : Nat) : Nat := 8 * max 1 ((s + K * 8 - 1) / (K * 8))

theorem wrap64_in (x : Int) (h : -1000000 ≤ x) (h2 : x ≤ 1000000) : wrap64 x = x := by unfold wrap64; omega

set_option maxHeartbeats 400000 in
theorem length_calls {w : World} {K M s : Nat} (hK : 1 ≤ K) (hKM : K + M ≤ 255) (hs : s ≤ 400) :
    Calls Tryd.prog 40 #[.agg #[.int .i64 (K : Int), .int .i64 (M : Int)], .int .i64 (s : Int)] w (RetV w (.int .i64 (lenS K s : Int))) := by
  have hb1 := below1' w (.cells #[.int .i64 (K : Int), .int .i64 (M : Int)] 38)
  have hk0 : (w.alloc (.cells #[.int .i64 (K : Int), .int .i64 (M : Int)] 38)).cell? ⟨w.heap.size, 0, none⟩ = some (.int .i64 (K : Int)) := cell_of_row _ _ 0 _ _ (0, 0) (heap_alloc_new w _)
  have hk1 : (w.alloc (.cells #[.int .i64 (K : Int), .int .i64 (M : Int)] 38)).cell? ⟨w.heap.size, 1, none⟩ = some (.int .i64 (M : Int)) := cell_of_row _ _ 1 _ _ (0, 0) (heap_alloc_new w _)
  have hs0 : decide ((s : Int) < 0) = false := by simp
  have hs4 : decide ((400 : Int) < (s : Int)) = false := by simp; omega
  go_enter Tryd.func40, Tryd.ntmps40
  go_wp2_with fail
  refine (can_calls hK hKM).mono ?_
  rintro e w' ⟨rfl, hb⟩
  have hk0' := (hb.cell (p := ⟨w.heap.size, 0, none⟩) (block_lt hk0)).trans hk0
  have hq : ((s : Int) + (K : Int) * 8 - 1) / ((K : Int) * 8) = (((s + K * 8 - 1) / (K * 8) : Nat) : Int) := by
    rw [Int.natCast_ediv]
    congr 1
    omega
  have hql : (s + K * 8 - 1) / (K * 8) ≤ 400 + 255 * 8 := Nat.le_trans (Nat.div_le_self _ _) (by omega)
  have HQ := Lib.hid hq
  clear hq
  go_wp2_with fail
  all_goals
    have hq := HQ.out
    rw [hq] at h
    try rw [hq]
    go_ret
    refine ⟨?_, hb1.trans (hb.mono hb1.size)⟩
    clear hq HQ
    unfold lenS
    generalize (s + K * 8 - 1) / (K * 8) = q at *
    congr 1
    show Value.int .i64 (wrap64 _) = _
    rw [wrap64_in _ (by omega) (by omega)]
    congr 1
    omega

set_option maxHeartbeats 400000 in
theorem code_calls {w : World} {K M : Nat} {x y : Int} (HK : Hid (wrap64 (1 + wrap64 ((IntKind.u64.wrap x).tmod 12)) = (K : Int))) (HM : Hid (wrap64 ((IntKind.u64.wrap y).tmod 6) = (M : Int))) :
    Calls Tryd.prog 38 #[.int .i64 x, .int .i64 y] w (RetV w (.agg #[.int .i64 (K : Int), .int .i64 (M : Int)])) := by
  go_enter Tryd.func38, Tryd.ntmps38
  go_wp2_with fail
  have eK := HK.out
  have eM := HM.out
  rw [eK, eM]
  clear eK eM HK HM
  refine bodyPost_ret (results_cell_row rfl _ _ w.heap.size 38 _ (0, 0) _ rfl (heap_alloc_new _ _) Tryd.underlying38 rfl (by kernel_rfl)) rfl ?_
  exact ⟨rfl, below1' _ _⟩

/-- What one unit's copy leaves. -/
def cut1 (lb : List B8) (at' off : Nat) (f : Nat → B8) : Nat → B8 := fun j => if off ≤ j ∧ j < off + 8 ∧ at' + (j - off) < lb.length then lb.getD (at' + (j - off)) 0#8 else f j
theorem cut1_row {lb : List B8} {at' off nn : Nat} {f : Nat → B8} (h : off + 8 ≤ nn) : rowL nn (cut1 lb at' off f) = (rowL nn f).take off ++ ((lb.drop at').take 8 ++ (rowL nn f).drop (off + ((lb.drop at').take 8).length)) := by
  have hL : ((lb.drop at').take 8).length = min 8 (lb.length - at') := by simp
  rw [hL]
  apply List.ext_getElem?
  intro k
  rw [List.getElem?_append]
  simp only [List.length_take, length_rowL]
  by_cases hk : k < nn
  · rw [rowL_get hk]
    by_cases h1 : k < off
    · rw [if_pos (by omega), List.getElem?_take, if_pos h1, rowL_get hk]
      unfold cut1
      rw [if_neg (by omega)]
    · rw [if_neg (by omega), List.getElem?_append, hL, Nat.min_eq_left (by omega : off ≤ nn)]
      by_cases h2 : k - off < min 8 (lb.length - at')
      · rw [if_pos h2, List.getElem?_take, if_pos (by omega), List.getElem?_drop]
        unfold cut1
        rw [if_pos (by omega), List.getD_eq_getElem?_getD, List.getElem?_eq_getElem (by omega)]
        rfl
      · rw [if_neg h2, List.getElem?_drop]
        have e : off + min 8 (lb.length - at') + (k - off - min 8 (lb.length - at')) = k := by omega
        rw [e, rowL_get hk]
        unfold cut1
        rw [if_neg (by omega)]
  · rw [List.getElem?_eq_none (by simp; omega), if_neg (by omega), List.getElem?_eq_none]
    simp
    omega

set_option maxHeartbeats 800000 in
set_option maxRecDepth 100000 in
theorem cut1_calls {w : World} {pb pd bk g at' k off c nn K : Nat} {A : Option Addr} {lb : List B8} {f : Nat → B8} (hpb : w.cell? ⟨pb, 0, none⟩ = some (.slice A lb.length c)) (hA : At w A (bys lb)) (hc : lb.length ≤ c) (hla : lb.length ≤ 400)
    (hpd : w.cell? ⟨pd, 0, none⟩ = some (.slice (some ⟨g, 0, none⟩) K K)) (hk : k < K) (hg : w.cell? ⟨g, k, none⟩ = some (.slice (some ⟨bk, 0, none⟩) nn nn)) (hR : RowB w bk (rowL nn f)) (hoff : off + 8 ≤ nn) (hnn : nn ≤ 1000) (hat : at' ≤ 300000) (hK : K ≤ 255) (hbb : pb ≠ bk) (hbd : pd ≠ bk) (hbg : g ≠ bk) :
    Calls Tryd.prog 74 #[.int .i64 (at' : Int), .int .i64 (k : Int), .int .i64 (off : Int), .pointer (some ⟨pb, 0, none⟩), .pointer (some ⟨pd, 0, none⟩)] w
      fun e w' => e = .returned (.tuple #[]) ∧ w.grownBy w' (some bk) ∧ RowB w' bk (rowL nn (cut1 lb at' off f)) := by
  by_cases hlt : at' < lb.length
  · have hlti : (at' : Int) < (lb.length : Int) := by omega
    go_enter Tryd.func74, Tryd.ntmps74
    go_wp2_with fail
    have hpbD : w.drew.cell? ⟨pb, 0, none⟩ = some (.slice A lb.length c) := hpb
    have hpdD : w.drew.cell? ⟨pd, 0, none⟩ = some (.slice (some ⟨g, 0, none⟩) K K) := hpd
    have hgD : w.drew.cell? ⟨g, k, none⟩ = some (.slice (some ⟨bk, 0, none⟩) nn nn) := hg
    have hRD : RowB w.drew bk (rowL nn f) := hR
    have hAD : At w.drew A (bys lb) := hA.below (belowN 1 : Below w.heap.size w (w.drewN 1))
    have hgr : w.grownBy w.drew (some bk) := grown_of_below (belowN 1) _
    refine wp_region_held_drew (S := fun w' => w'.cell? ⟨pb, 0, none⟩ = some (.slice A lb.length c) ∧ w'.cell? ⟨pd, 0, none⟩ = some (.slice (some ⟨g, 0, none⟩) K K) ∧ w'.cell? ⟨g, k, none⟩ = some (.slice (some ⟨bk, 0, none⟩) nn nn)) (by kernel_rfl) ⟨hpbD, hpdD, hgD⟩ (fun hHeld => ?_)
    generalize w.drew = WD at *
    clear hpb hpd hg hR
    obtain ⟨bA, oA, rfl⟩ := some_of_at hA (by simp; omega)
    clear hA
    have hsl1 : 0 ≤ (off : Int) + 8 ∧ (off : Int) + 8 ≤ (nn : Int) := by omega
    have hsl2 : off ≤ off + 8 := by omega
    have hsl3 : ((off : Int) + 8).toNat = off + 8 := by omega
    have hsl4 : ¬ nn = off := by omega
    have hsl5 : ¬ c = at' := by omega
    have hsl6 : at' ≤ lb.length := by omega
    have hki : (k : Int) < (K : Int) := by omega
    have hwk : IntKind.i64.wrap (k : Int) = (k : Int) := IntWalk.i64_in _ (by omega)
    have hwo : IntKind.i64.wrap ((off : Int) + 8) = (off : Int) + 8 := IntWalk.i64_in _ (by omega)
    refine wpAnyH_take (i := 0) (v := ?_) rfl (by kernel_rfl) (by kernel_rfl) (by kernel_rfl) (fun _ _ _ h => h) (Or.inl ⟨by rfl, ?_⟩) (by assumption) ?_; rotate_left; (intro w hSw; (try dsimp only at hSw); go_simp; (first | done | (with_reducible rfl))); (try simp only [List.getElem_toArray, List.getElem_cons_succ, List.getElem_cons_zero, Act.put, List.setIfInBounds_toArray, List.set_cons_zero, List.set_cons_succ])
    refine wpAnyH_take (i := 1) (v := ?_) rfl (by kernel_rfl) (by kernel_rfl) (by kernel_rfl) (fun _ _ _ h => h) (Or.inl ⟨by rfl, ?_⟩) (by assumption) ?_; rotate_left; (intro w hSw; (try dsimp only at hSw); go_simp; (first | done | (with_reducible rfl))); (try simp only [List.getElem_toArray, List.getElem_cons_succ, List.getElem_cons_zero, Act.put, List.setIfInBounds_toArray, List.set_cons_zero, List.set_cons_succ])
    refine wpAnyH_take (i := 2) (v := ?_) rfl (by kernel_rfl) (by kernel_rfl) (by kernel_rfl) (fun _ _ _ h => h) (Or.inl ⟨by rfl, ?_⟩) (by assumption) ?_; rotate_left; (intro w hSw; (try dsimp only at hSw); go_simp; (first | done | (with_reducible rfl))); (try simp only [List.getElem_toArray, List.getElem_cons_succ, List.getElem_cons_zero, Act.put, List.setIfInBounds_toArray, List.set_cons_zero, List.set_cons_succ])
    refine wpAnyH_take (i := 3) (v := ?_) rfl (by kernel_rfl) (by kernel_rfl) (by kernel_rfl) (fun _ _ _ h => h) (Or.inl ⟨by rfl, ?_⟩) (by assumption) ?_; rotate_left; (intro w hSw; (try dsimp only at hSw); go_simp; (first | done | (with_reducible rfl))); (try simp only [List.getElem_toArray, List.getElem_cons_succ, List.getElem_cons_zero, Act.put, List.setIfInBounds_toArray, List.set_cons_zero, List.set_cons_succ])
    refine wpAnyH_take (i := 4) (v := ?_) rfl (by kernel_rfl) (by kernel_rfl) (by kernel_rfl) (fun _ _ _ h => h) (Or.inl ⟨by rfl, ?_⟩) (by assumption) ?_; rotate_left; (intro w hSw; (try dsimp only at hSw); go_simp; (first | done | (with_reducible rfl))); (try simp only [List.getElem_toArray, List.getElem_cons_succ, List.getElem_cons_zero, Act.put, List.setIfInBounds_toArray, List.set_cons_zero, List.set_cons_succ])
    refine wpAnyH_take (i := 5) (v := ?_) rfl (by kernel_rfl) (by kernel_rfl) (by kernel_rfl) (fun _ _ _ h => h) (Or.inl ⟨by rfl, ?_⟩) (by assumption) ?_; rotate_left; (intro w hSw; (try dsimp only at hSw); go_simp; (first | done | (with_reducible rfl))); (try simp only [List.getElem_toArray, List.getElem_cons_succ, List.getElem_cons_zero, Act.put, List.setIfInBounds_toArray, List.set_cons_zero, List.set_cons_succ])
    refine wpAnyH_take (i := 6) (v := ?_) rfl (by kernel_rfl) (by kernel_rfl) (by kernel_rfl) (fun _ _ _ h => h) (Or.inl ⟨by rfl, ?_⟩) (by assumption) ?_; rotate_left; (intro w hSw; (try dsimp only at hSw); go_simp; (first | done | (with_reducible rfl))); (try simp only [List.getElem_toArray, List.getElem_cons_succ, List.getElem_cons_zero, Act.put, List.setIfInBounds_toArray, List.set_cons_zero, List.set_cons_succ])
    refine wpAnyH_take (i := 7) (v := ?_) rfl (by kernel_rfl) (by kernel_rfl) (by kernel_rfl) (fun _ _ _ h => h) (Or.inl ⟨by rfl, ?_⟩) (by assumption) ?_; rotate_left; (intro w hSw; (try dsimp only at hSw); go_simp; (first | done | (with_reducible rfl))); (try simp only [List.getElem_toArray, List.getElem_cons_succ, List.getElem_cons_zero, Act.put, List.setIfInBounds_toArray, List.set_cons_zero, List.set_cons_succ])
    refine wpAnyH_take (i := 8) (v := ?_) rfl (by kernel_rfl) (by kernel_rfl) (by kernel_rfl) (fun _ _ _ h => h) (Or.inl ⟨by rfl, ?_⟩) (by assumption) ?_; rotate_left; (intro w hSw; (try dsimp only at hSw); go_simp; (first | done | (with_reducible rfl))); (try simp only [List.getElem_toArray, List.getElem_cons_succ, List.getElem_cons_zero, Act.put, List.setIfInBounds_toArray, List.set_cons_zero, List.set_cons_succ])
    refine wpAnyH_take (i := 9) (v := ?_) rfl (by kernel_rfl) (by kernel_rfl) (by kernel_rfl) (fun _ _ _ h => h) (Or.inl ⟨by rfl, ?_⟩) (by assumption) ?_; rotate_left; (intro w hSw; (try dsimp only at hSw); go_simp; (first | done | (with_reducible rfl))); (try simp only [List.getElem_toArray, List.getElem_cons_succ, List.getElem_cons_zero, Act.put, List.setIfInBounds_toArray, List.set_cons_zero, List.set_cons_succ])
    refine wpAnyH_take (i := 10) (v := ?_) rfl (by kernel_rfl) (by kernel_rfl) (by kernel_rfl) (fun _ _ _ h => h) (Or.inl ⟨by rfl, ?_⟩) (by assumption) ?_; rotate_left; (intro w hSw; (try dsimp only at hSw); go_simp; (first | done | (with_reducible rfl))); (try simp only [List.getElem_toArray, List.getElem_cons_succ, List.getElem_cons_zero, Act.put, List.setIfInBounds_toArray, List.set_cons_zero, List.set_cons_succ])
    have hA2 : At WD (some ⟨bA, oA + at', none⟩) (bys ((lb.drop at').take 8)) := by
      have h := (hAD.drop at' c (by simpa using hc)).take 8
      unfold cutA at h
      rw [if_neg hsl5] at h
      by_cases h0 : at' = 0
      · subst h0
        simpa [bys, List.map_drop, List.map_take, Addr.add] using h
      · simpa [bys, List.map_drop, List.map_take, Addr.add, h0] using h
    refine wpAnyH_ready (rs := [11]) (by kernel_rfl) (by simp) ?_; refine AllReadyH.cons rfl (fun K hK => ?_) AllReadyH.nil
    refine step_copy_row rfl (.tmp 19) (.tmp 22) rfl rfl rfl hRD hA2 (by rw [List.length_take, List.length_drop]; exact Nat.min_comm _ _) (by simp; omega) (by simp; omega) ?_
    intro w4 hr4 hg4
    refine hK.out _ _ ⟨hg4.cell hpbD (by simpa using hbb), hg4.cell hpdD (by simpa using hbd), hg4.cell hgD (by simpa using hbg)⟩ (fun hHeld => ?_)
    clear hK K
    (try simp only [List.getElem_toArray, List.getElem_cons_succ, List.getElem_cons_zero, Act.put, List.setIfInBounds_toArray, List.set_cons_zero, List.set_cons_succ])
    refine wpAnyH_done (by kernel_rfl) ?_ _
    rw [← cut1_row hoff] at hr4
    go_end0
    exact ⟨rfl, grown_trans hgr hg4, hr4⟩
  · have hlti : ¬ (at' : Int) < (lb.length : Int) := by omega
    have hf : cut1 lb at' off f = f := by
      funext j
      unfold cut1
      rw [if_neg (by omega)]
    rw [hf]
    clear hf
    go_enter Tryd.func74, Tryd.ntmps74
    go_wp2_with fail
    go_end0
    exact ⟨rfl, grown_refl _ _, hR⟩

end Go.Proofs.YtibidlgikecelaaDoor

namespace Go.Proofs.YtibidlgikecelaaDoor
open Go.RowKit
set_option linter.unusedVariables false
set_option linter.unusedSimpArgs false

/-- A blob's data, cut by units. -/
def cutD (lb : List B8) (K : Nat) : Mx := fun r j => lb.getD (j / 8 * 8 * K + r * 8 + j % 8) 0#8
/-- They in the making: u stripes, and k units of the next one. -/
def cutM (lb : List B8) (K u k : Nat) : Mx := fun r j => if j < 8 * u ∨ (j < 8 * u + 8 ∧ r < k) then cutD lb K r j else 0#8
theorem cutM_start (lb : List B8) (K : Nat) (r : Nat) : cutM lb K 0 0 r = fun _ => 0#8 := by
  funext j
  unfold cutM
  rw [if_neg (by omega)]
theorem cutM_step (lb : List B8) (K u k : Nat) : cut1 lb (8 * u * K + k * 8) (8 * u) (cutM lb K u k k) = cutM lb K u (k + 1) k := by
  funext j
  unfold cut1
  by_cases h1 : 8 * u ≤ j ∧ j < 8 * u + 8
  · have hd : j / 8 = u := by omega
    have hm : j % 8 = j - 8 * u := by omega
    have hi : cutD lb K k j = lb.getD (8 * u * K + k * 8 + (j - 8 * u)) 0#8 := by
      unfold cutD
      rw [hd, hm, Nat.mul_comm u 8]
    have h2 : cutM lb K u (k + 1) k j = cutD lb K k j := by
      unfold cutM
      rw [if_pos (by omega)]
    rw [h2, hi]
    by_cases h3 : 8 * u * K + k * 8 + (j - 8 * u) < lb.length
    · rw [if_pos ⟨h1.1, h1.2, h3⟩]
    · rw [if_neg (fun h => h3 h.2.2)]
      unfold cutM
      rw [if_neg (by omega), List.getD_eq_getElem?_getD, List.getElem?_eq_none (by omega)]
      rfl
  · rw [if_neg (fun h => h1 ⟨h.1, h.2.1⟩)]
    unfold cutM
    by_cases h2 : j < 8 * u
    · rw [if_pos (.inl h2), if_pos (.inl h2)]
    · rw [if_neg (by omega), if_neg (by omega)]
theorem cutM_other (lb : List B8) {K u k r : Nat} (h : r ≠ k) : cutM lb K u (k + 1) r = cutM lb K u k r := by
  funext j
  unfold cutM
  by_cases h1 : j < 8 * u ∨ (j < 8 * u + 8 ∧ r < k)
  · rw [if_pos h1, if_pos (by omega)]
  · rw [if_neg h1, if_neg (by omega)]
theorem cutM_round (lb : List B8) {K u r : Nat} (h : r < K) : cutM lb K u K r = cutM lb K (u + 1) 0 r := by
  funext j
  unfold cutM
  by_cases h1 : j < 8 * u + 8
  · rw [if_pos (by omega), if_pos (by omega)]
  · rw [if_neg (by omega), if_neg (by omega)]
theorem cutM_end (lb : List B8) (K q r : Nat) : rowL (8 * q) (cutM lb K q 0 r) = rowL (8 * q) (cutD lb K r) := rowL_congr fun j hj => by
  unfold cutM
  rw [if_pos (.inl hj)]

set_option maxHeartbeats 1000000 in
set_option maxRecDepth 100000 in
theorem unitsCut_calls {w : World} {B pb pd g c nn q K M : Nat} {blk : Nat → Nat} {A : Option Addr} {lb : List B8} (hpb : w.cell? ⟨pb, 0, none⟩ = some (.slice A lb.length c)) (hA : ∀ wr, Below B w wr → At wr A (bys lb)) (hc : lb.length ≤ c) (hla : lb.length ≤ 400)
    (hpd : w.cell? ⟨pd, 0, none⟩ = some (.slice (some ⟨g, 0, none⟩) K K)) (hg : ∀ k, k < K → w.cell? ⟨g, k, none⟩ = some (.slice (some ⟨blk k, 0, none⟩) nn nn)) (hR : ∀ k, k < K → RowB w (blk k) (rowL nn fun _ => 0#8))
    (hinj : ∀ i j, i < K → j < K → blk i = blk j → i = j) (hgB : ∀ k, k < K → B ≤ blk k) (hBw : B ≤ w.heap.size) (hpbB : pb < B) (hpdB : pd < B) (hgBB : g < B) (hnq : Hid (nn = 8 * q)) (hnn : nn ≤ 1000) (hK : K ≤ 255) :
    Calls Tryd.prog 73 #[.agg #[.int .i64 (K : Int), .int .i64 (M : Int)], .int .i64 (nn : Int), .func (.func 74) #[] #[.pointer (some ⟨pb, 0, none⟩), .pointer (some ⟨pd, 0, none⟩)]] w
      fun e w' => e = .returned (.tuple #[]) ∧ Below B w w' ∧ ∀ k, k < K → RowB w' (blk k) (rowL nn (cutD lb K k)) := by
  have hb1 := below1' w (.cells #[.int .i64 (K : Int), .int .i64 (M : Int)] 38)
  have hk0 : (w.alloc (.cells #[.int .i64 (K : Int), .int .i64 (M : Int)] 38)).cell? ⟨w.heap.size, 0, none⟩ = some (.int .i64 (K : Int)) := cell_of_row _ _ 0 _ _ (0, 0) (heap_alloc_new w _)
  go_enter Tryd.func73, Tryd.ntmps73
  go_wp2_with fail
  generalize w.alloc (.cells #[.int .i64 (K : Int), .int .i64 (M : Int)] 38) = w1 at *
  have hbsz := hb1.size
  have hrl : ∀ k, k < K → blk k < w.heap.size := fun k hk => (hR k hk).lt
  have hR1 : ∀ k, k < K → RowB w1 (blk k) (rowL nn (cutM lb K 0 0 k)) := fun k hk => by rw [cutM_start]; exact (hR k hk).below hb1 (hrl k hk)
  have hB1 : Below B w w1 := hb1.mono hBw
  clear hb1 hR
  go_loopw [6] (fun s wr => ∃ u o : Nat, u ≤ q ∧ o ≤ nn ∧ Hid (o = 8 * u) ∧ s = .int .i64 ((o : Nat) : Int) ∧ (∀ k, k < K → RowB wr (blk k) (rowL nn (cutM lb K u 0 k))) ∧ Below B w wr ∧ wr.cell? ⟨w.heap.size, 0, none⟩ = some (.int .i64 (K : Int)) ∧ w.heap.size < wr.heap.size) (fun s _ => nn - (intOf s).toNat)
  case atStart => exact ⟨0, 0, Nat.zero_le _, Nat.zero_le _, rfl, rfl, hR1, hB1, hk0, block_lt hk0⟩
  case round =>
    obtain ⟨u, o, hu, ho, HO, rfl, hRr, hBr, hkr, hsr⟩ := hrel
    rename World => w2
    clear hR1 hB1 hk0
    by_cases huq : o < nn
    · have hoi : (o : Int) < (nn : Int) := by omega
      have hu8 : o + 8 ≤ nn := by rw [hnq.out] at huq ⊢; rw [HO.out] at huq ⊢; omega
      have huq2 : u + 1 ≤ q := by rw [hnq.out] at hu8; rw [HO.out] at hu8; omega
      have hoK : (o : Int) * (K : Int) = ((o * K : Nat) : Int) := by simp
      have hoK2 : o * K ≤ 1000 * 255 := Nat.mul_le_mul (by omega) hK
      generalize hpe : o * K = p at *
      have HP := Lib.hid hpe
      clear hpe
      go_wp2_with fail
      go_loopw [15] (fun s wr => ∃ k : Nat, k ≤ K ∧ s = .int .i64 ((k : Nat) : Int) ∧ (∀ r, r < K → RowB wr (blk r) (rowL nn (cutM lb K u k r))) ∧ Below B w wr ∧ wr.cell? ⟨w.heap.size, 0, none⟩ = some (.int .i64 (K : Int)) ∧ w.heap.size < wr.heap.size) (fun s _ => K - (intOf s).toNat)
      case atStart => exact ⟨0, Nat.zero_le _, rfl, hRr, hBr, hkr, hsr⟩
      case round =>
        obtain ⟨k, hkK, rfl, hR3, hB3, hk3, hs3⟩ := hrel
        clear hRr hBr hkr hsr
        by_cases hkl : k < K
        · have hki : (k : Int) < (K : Int) := by omega
          have HCL := cut1_calls (at' := p + k * 8) (off := o) (k := k) ((hB3.cell (p := ⟨pb, 0, none⟩) hpbB).trans hpb) (hA wr hB3) hc hla ((hB3.cell (p := ⟨pd, 0, none⟩) hpdB).trans hpd) hkl ((hB3.cell (p := ⟨g, k, none⟩) hgBB).trans (hg k hkl)) (hR3 k hkl) hu8 hnn (by omega) hK
            (by have := hgB k hkl; omega) (by have := hgB k hkl; omega) (by have := hgB k hkl; omega)
          rw [show ((p + k * 8 : Nat) : Int) = (p : Int) + (k : Int) * 8 by omega] at HCL
          replace HCL := Lib.hid HCL
          go_wp2_with fail
          refine HCL.out.mono ?_
          rintro e w4 ⟨rfl, hg4, hr4⟩
          have hblk := hgB k hkl
          have hrk := hrl k hkl
          have hR4 : ∀ r, r < K → RowB w4 (blk r) (rowL nn (cutM lb K u (k + 1) r)) := fun r hr => by
            by_cases hrk' : r = k
            · subst hrk'
              rw [← cutM_step, ← HO.out, HP.out]
              exact hr4
            · rw [cutM_other lb hrk']
              exact (hR3 r hr).grown hg4 (by simp only [ne_eq, Option.some.injEq]; exact fun h => hrk' (hinj _ _ hr hkl h))
          have hB4 := below_of_grown (B := B) hg4 (Nat.le_trans hBw hB3.size) (by intro t ht; cases ht; exact hblk)
          have hB5 := hB3.trans hB4
          have hk4 := hg4.cell hk3 (by simp; omega)
          have hs4 := block_lt hk4
          clear HCL hR3 hB3 hk3 hg4 hr4
          go_wp2_with fail
          exact ⟨⟨k + 1, by omega, by go_num, hR4, hB5, hk4, hs4⟩, by simp [intOf]; omega⟩
        · obtain rfl : k = K := by omega
          have hR4 : ∀ r, r < k → RowB wr (blk r) (rowL nn (cutM lb k (u + 1) 0 r)) := fun r hr => by rw [← cutM_round lb hr]; exact hR3 r hr
          have HO2 : Hid (o + 8 = 8 * (u + 1)) := Lib.hid (by rw [HO.out]; omega)
          go_wp2_with fail
          exact ⟨⟨u + 1, o + 8, huq2, hu8, HO2, by go_num, hR4, hB3, hk3, hs3⟩, by simp [intOf]; omega⟩
    · have hoq : o = nn := by omega
      have hoi : ¬ (o : Int) < (nn : Int) := by omega
      have huq : u = q := by have h1 := HO.out; have h2 := hnq.out; omega
      have hRf : ∀ k, k < K → RowB w2 (blk k) (rowL nn (cutD lb K k)) := fun k hk => by
        have := hRr k hk
        rw [huq] at this
        rw [hnq.out] at this ⊢
        rwa [cutM_end] at this
      clear hoq huq
      go_wp2_with fail
      go_end0
      exact ⟨rfl, hBr, hRf⟩

end Go.Proofs.YtibidlgikecelaaDoor

namespace Go.Proofs.YtibidlgikecelaaDoor
open Go.RowKit
set_option linter.unusedVariables false
set_option linter.unusedSimpArgs false

theorem lenS_le {K s : Nat} (hK : 1 ≤ K) (hs : s ≤ 400) : lenS K s ≤ 1000 := by
  have : (s + K * 8 - 1) / (K * 8) ≤ 51 := Nat.div_le_of_le_mul (by omega)
  unfold lenS
  omega
theorem lenS_pos (K s : Nat) : 8 ≤ lenS K s := by unfold lenS; omega
theorem lenS_mul (K s : Nat) : lenS K s = 8 * (lenS K s / 8) := by unfold lenS; omega

theorem step_make_row {w : World} {ops : Array Oper} {E : Prop} {o : Oper} {a : Act} {K : Act → World → Prop} {Q : Exit → Act → World → Prop}
    (hg : o.guard = none) (l c : Operand) (hop : o.op = Op.makeSlice 22 l c) {L C : Int} (n : Nat) (hl : a.eval l = .int .i64 L) (hc : a.eval c = .int .i64 C) (hL : L = (n : Int)) (hC : C = (n : Int))
    (b2 : n ≤ 140737488351232)
    (hK : ∀ w', RowB w' w.heap.size (rowL n fun _ => 0#8) → Below w.heap.size w w' → w'.heap.size = w.heap.size + 1 → K (a.put o.dst (.slice (some ⟨w.heap.size, 0, none⟩) n n)) w') :
    if Region.wanted o (yielded ops a.tmps) = true then o.wp Tryd.prog a w K Q else E := by
  rw [if_pos (by simp [Region.wanted, hg])]
  subst hL hC
  obtain ⟨i, hi, hz0, hz1, hz2⟩ := info_parts u8info
  have hr := run_make (P := Tryd.prog) w 22 5 i (.int .u8 0) Tryd.underlying22 hi hz0 .i64 .i64 n n (by omega) (Int.le_refl _) (by rw [hz2]; omega) (by omega)
  simp only [Int.toNat_natCast] at hr
  unfold Oper.wp
  simp [execOp, hop, hl, hc, hr, Result.andThen]
  refine hK _ ?_ (below1' _ _) (by simp)
  unfold RowB
  rw [heap_alloc_new]
  congr 2
  rw [hz1, Nat.mul_one, rowL_const]
  apply Array.ext'
  rw [show (Value.int .u8 0).cells = #[Value.int .u8 0] from rfl, toList_madeCells_one]
  simp [bys, bv]

set_option maxHeartbeats 1000000 in
set_option maxRecDepth 100000 in
theorem cut_calls {w : World} {n c K M : Nat} {A : Option Addr} {lb : List B8} (hA : At w A (bys lb)) (hn : n = lb.length) (hc : lb.length ≤ c) (hla : lb.length ≤ 400) (hK : 1 ≤ K) (hKM : K + M ≤ 255) (hF : FoldAt w) :
    Calls Tryd.prog 39 #[.agg #[.int .i64 (K : Int), .int .i64 (M : Int)], .slice A n c] w (RetO w (K + M) (lenS K lb.length) (mulM K (genM K) (cutD lb K))) := by
  subst hn
  have HL := fun (W : World) => Lib.hid (length_calls (w := W) hK hKM hla)
  have hn1 := lenS_le hK hla
  have hn2 := lenS_pos K lb.length
  have HQ : Hid (lenS K lb.length = 8 * (lenS K lb.length / 8)) := lenS_mul K lb.length
  generalize lenS K lb.length / 8 = q at *
  generalize lenS K lb.length = nn at *
  have hnz : ((nn : Int) == 0) = false := by simp; omega
  have hb2 := below2 w (.cells #[.int .i64 (K : Int), .int .i64 (M : Int)] 38) (.cells #[.slice A lb.length c] 22)
  have hcode : ((w.alloc (.cells #[.int .i64 (K : Int), .int .i64 (M : Int)] 38)).alloc (.cells #[.slice A lb.length c] 22)).heap[w.heap.size]? = some (.cells #[.int .i64 (K : Int), .int .i64 (M : Int)] 38 (0, 0)) := by
    rw [Below.heap_alloc _ _ _ (by simp)]
    exact heap_alloc_new _ _
  have hbl : ((w.alloc (.cells #[.int .i64 (K : Int), .int .i64 (M : Int)] 38)).alloc (.cells #[.slice A lb.length c] 22)).cell? ⟨w.heap.size + 1, 0, none⟩ = some (.slice A lb.length c) := by
    simp
  go_enter Tryd.func39, Tryd.ntmps39
  go_wp2_with fail
  generalize (w.alloc (.cells #[.int .i64 (K : Int), .int .i64 (M : Int)] 38)).alloc (.cells #[.slice A lb.length c] 22) = w2 at *
  have hk0 := cell_of_row w2 w.heap.size 0 _ _ (0, 0) hcode
  have hk1 := cell_of_row w2 w.heap.size 1 _ _ (0, 0) hcode
  simp at hk0 hk1
  have hsw := block_lt hbl
  refine (HL _).out.mono ?_
  rintro e w3 ⟨rfl, hb3⟩
  have hbl3 := (hb3.cell (p := ⟨w.heap.size + 1, 0, none⟩) hsw).trans hbl
  have hk03 := (hb3.cell (p := ⟨w.heap.size, 0, none⟩) (by simp; omega)).trans hk0
  have hk13 := (hb3.cell (p := ⟨w.heap.size, 1, none⟩) (by simp; omega)).trans hk1
  have hB3 := hb2.trans (hb3.mono hb2.size)
  have hsz3 : w.heap.size + 1 < w3.heap.size := Nat.lt_of_lt_of_le hsw hb3.size
  clear hb2 hb3 hk0 hk1 hbl hcode hsw HL
  clear w2
  go_wp2_with (refine make_top rfl (.tmp 16) (.tmp 16) rfl K rfl rfl rfl rfl (by omega) ?_; intro w4 ht4 hb4 hs4)
  have hb5 := hb4.trans ((below1' w4 (.cells #[.slice (some ⟨w3.heap.size, 0, none⟩) K K] 24)).mono hb4.size)
  have hpd := cell_of_row _ _ 0 _ _ (0, 0) (heap_alloc_new w4 (.cells #[.slice (some ⟨w3.heap.size, 0, none⟩) K K] 24))
  rw [hs4] at hpd
  have ht5 := ((below1' w4 (.cells #[.slice (some ⟨w3.heap.size, 0, none⟩) K K] 24)).block w3.heap.size (by omega)).trans ht4
  have hs5 : (w4.alloc (.cells #[.slice (some ⟨w3.heap.size, 0, none⟩) K K] 24)).heap.size = w3.heap.size + 1 + 1 := by simp; exact hs4
  generalize w4.alloc (.cells #[.slice (some ⟨w3.heap.size, 0, none⟩) K K] 24) = w5 at *
  simp at hpd
  clear hb4 ht4 hs4
  have HT := Lib.hid ht5
  have HS := Lib.hid hs5
  clear ht5 hs5
  go_loopw [20] (fun s wr => ∃ i : Nat, i ≤ K ∧ s = .int .i64 ((i : Nat) : Int) ∧ Hid (wr.heap[w3.heap.size]? = some (.cells (headsAt (w3.heap.size + 1) K nn i).toArray 22 (0, 0))) ∧
    Hid (∀ k, k < i → RowB wr (w3.heap.size + 1 + 1 + k) (rowL nn fun _ => 0#8)) ∧ Hid (wr.heap.size = w3.heap.size + 1 + 1 + i) ∧ wr.cell? ⟨w3.heap.size + 1, 0, none⟩ = some (.slice (some ⟨w3.heap.size, 0, none⟩) K K) ∧ Below w3.heap.size w3 wr) (fun s _ => K - (intOf s).toNat)
  case atStart => exact ⟨0, Nat.zero_le _, rfl, by rw [headsAt_zero]; exact HT.out, fun k hk => absurd hk (Nat.not_lt_zero _), HS.out, hpd, hb5⟩
  case round =>
    obtain ⟨i, hi, rfl, HTr, HRr, HSr, hpdr, hBr⟩ := hrel
    clear HT HS hpd hb5
    by_cases hiK : i < K
    · have hii : (i : Int) < (K : Int) := by omega
      go_wp2_with fail
      have hpdD : wr.drew.cell? ⟨w3.heap.size + 1, 0, none⟩ = some (.slice (some ⟨w3.heap.size, 0, none⟩) K K) := hpdr
      have HTD : Hid (wr.drew.heap[w3.heap.size]? = some (.cells (headsAt (w3.heap.size + 1) K nn i).toArray 22 (0, 0))) := HTr
      have HRD : Hid (∀ k, k < i → RowB wr.drew (w3.heap.size + 1 + 1 + k) (rowL nn fun _ => 0#8)) := HRr
      have HSD : Hid (wr.drew.heap.size = w3.heap.size + 1 + 1 + i) := HSr
      have hBD : Below w3.heap.size w3 wr.drew := hBr.drew
      refine wp_region_held_drew (S := fun w' => w'.cell? ⟨w3.heap.size + 1, 0, none⟩ = some (.slice (some ⟨w3.heap.size, 0, none⟩) K K)) (by kernel_rfl) hpdD (fun hHeld => ?_)
      generalize wr.drew = WD at *
      clear hpdr HTr HRr HSr hBr
      have hwi : IntKind.i64.wrap (i : Int) = (i : Int) := IntWalk.i64_in _ (by omega)
      refine wpAnyH_take (i := 0) (v := ?_) rfl (by kernel_rfl) (by kernel_rfl) (by kernel_rfl) (fun _ _ _ h => h) (Or.inl ⟨by rfl, ?_⟩) (by assumption) ?_; rotate_left; (intro w hSw; (try dsimp only at hSw); go_simp; (first | done | (with_reducible rfl))); (try simp only [List.getElem_toArray, List.getElem_cons_succ, List.getElem_cons_zero, Act.put, List.setIfInBounds_toArray, List.set_cons_zero, List.set_cons_succ])
      refine wpAnyH_take (i := 1) (v := ?_) rfl (by kernel_rfl) (by kernel_rfl) (by kernel_rfl) (fun _ _ _ h => h) (Or.inl ⟨by rfl, ?_⟩) (by assumption) ?_; rotate_left; (intro w hSw; (try dsimp only at hSw); go_simp; (first | done | (with_reducible rfl))); (try simp only [List.getElem_toArray, List.getElem_cons_succ, List.getElem_cons_zero, Act.put, List.setIfInBounds_toArray, List.set_cons_zero, List.set_cons_succ])
      refine wpAnyH_take (i := 2) (v := ?_) rfl (by kernel_rfl) (by kernel_rfl) (by kernel_rfl) (fun _ _ _ h => h) (Or.inl ⟨by rfl, ?_⟩) (by assumption) ?_; rotate_left; (intro w hSw; (try dsimp only at hSw); go_simp; (first | done | (with_reducible rfl))); (try simp only [List.getElem_toArray, List.getElem_cons_succ, List.getElem_cons_zero, Act.put, List.setIfInBounds_toArray, List.set_cons_zero, List.set_cons_succ])
      refine wpAnyH_ready (rs := [3]) (by kernel_rfl) (by simp) ?_; refine AllReadyH.cons rfl (fun K hK => ?_) AllReadyH.nil
      refine step_make_row rfl (.tmp 25) (.tmp 25) rfl nn rfl rfl rfl rfl (by omega) ?_
      intro w6 hr6 hb6 hs6
      refine hK.out _ _ ((hb6.cell (p := ⟨w3.heap.size + 1, 0, none⟩) (block_lt hpdD)).trans hpdD) (fun hHeld => ?_)
      clear hK K
      (try simp only [List.getElem_toArray, List.getElem_cons_succ, List.getElem_cons_zero, Act.put, List.setIfInBounds_toArray, List.set_cons_zero, List.set_cons_succ])
      refine wpAnyH_take (i := 4) (v := ?_) rfl (by kernel_rfl) (by kernel_rfl) (by kernel_rfl) (fun _ _ _ h => h) (Or.inl ⟨by rfl, ?_⟩) (by assumption) ?_; rotate_left; (intro w hSw; (try dsimp only at hSw); go_simp; (first | done | (with_reducible rfl))); (try simp only [List.getElem_toArray, List.getElem_cons_succ, List.getElem_cons_zero, Act.put, List.setIfInBounds_toArray, List.set_cons_zero, List.set_cons_succ])
      rw [HSD.out] at hr6 hb6 hs6
      rw [HSD.out]
      have hsB : w3.heap.size ≤ w3.heap.size + 1 + 1 + i := by omega
      have ht6 := (hb6.block w3.heap.size (by omega)).trans HTD.out
      have hc6 := cell_of_row w6 w3.heap.size i _ _ (0, 0) ht6
      rw [List.getElem?_toArray, headsAt_get _ _ _ _ hiK] at hc6
      have hf6 := frozen_of_row w6 w3.heap.size i _ _ ht6
      have hset := heap_setCell_same w6 w3.heap.size i _ _ (.slice (some ⟨w3.heap.size + 1 + 1 + i, 0, none⟩) nn nn) ht6
      rw [List.setIfInBounds_toArray, headsAt_set] at hset
      have hgs := grown_set w6 w3.heap.size i (.slice (some ⟨w3.heap.size + 1 + 1 + i, 0, none⟩) nn nn)
      have hR6 := hr6.grown hgs (by simp; omega)
      have hold : ∀ k, k < i → RowB (w6.setCell ⟨w3.heap.size, i, none⟩ (.slice (some ⟨w3.heap.size + 1 + 1 + i, 0, none⟩) nn nn)) (w3.heap.size + 1 + 1 + k) (rowL nn fun _ => 0#8) := fun k hk => ((HRD.out k hk).below hb6 (by omega)).grown hgs (by simp; omega)
      have hB6 : Below w3.heap.size w3 (w6.setCell ⟨w3.heap.size, i, none⟩ (.slice (some ⟨w3.heap.size + 1 + 1 + i, 0, none⟩) nn nn)) := (hBD.trans (hb6.mono hsB)).setCell (Nat.le_refl _) _
      have hpd6 := hgs.cell hHeld (by simp)
      have HSET := Lib.hid hset
      have HR6 := Lib.hid hR6
      have HO6 := Lib.hid hold
      have HS6 : Hid ((w6.setCell ⟨w3.heap.size, i, none⟩ (.slice (some ⟨w3.heap.size + 1 + 1 + i, 0, none⟩) nn nn)).heap.size = w3.heap.size + 1 + 1 + i + 1) := Lib.hid (by simp [World.setCell]; exact hs6)
      clear hset hR6 hold ht6 hr6 hs6 hwi
      refine wpAnyH_ready (rs := [5]) (by kernel_rfl) (by simp) ?_; refine AllReadyH.cons rfl (fun K hK => ?_) AllReadyH.nil
      go_simp
      go_wp2_with fail
      refine hK.out _ _ hpd6 (fun hHeld => ?_)
      clear hK K
      (try simp only [List.getElem_toArray, List.getElem_cons_succ, List.getElem_cons_zero, Act.put, List.setIfInBounds_toArray, List.set_cons_zero, List.set_cons_succ])
      refine wpAnyH_done (by kernel_rfl) ?_ _
      go_wp2_with fail
      refine ⟨⟨i + 1, by omega, by go_num, HSET.out, fun k hk => ?_, HS6.out, hpd6, hB6⟩, by simp [intOf]; omega⟩
      by_cases hki : k < i
      · exact HO6.out k hki
      · obtain rfl : k = i := by omega
        exact HR6.out
    · obtain rfl : K = i := by omega
      have hte := HTr.out
      rw [headsAt_end] at hte
      have hlow : w.heap.size + 1 < w3.heap.size := hsz3
      have hBw := hB3.trans (hBr.mono hB3.size)
      have hblr := (hBr.cell (p := ⟨w.heap.size + 1, 0, none⟩) hsz3).trans hbl3
      have hk0r := (hBr.cell (p := ⟨w.heap.size, 0, none⟩) (by simp; omega)).trans hk03
      have hk1r := (hBr.cell (p := ⟨w.heap.size, 1, none⟩) (by simp; omega)).trans hk13
      have hszr := HSr.out
      have hww := hB3.size
      have hpdq := hpdr
      have HUC := Lib.hid (unitsCut_calls (w := wr) (M := M) (B := w3.heap.size + 1 + 1) (pb := w.heap.size + 1) (pd := w3.heap.size + 1) (g := w3.heap.size) (blk := fun k => w3.heap.size + 1 + 1 + k) hblr
        (fun W hW => hA.below (hBw.trans (hW.mono (by omega)))) hc hla hpdr (fun k hk => by
          have h := cell_of_row wr w3.heap.size k _ _ (0, 0) hte
          rw [List.getElem?_toArray, headsV_get hk] at h
          exact h) HRr.out (fun a b _ _ h => by omega) (fun k _ => by omega) (by omega) (by omega) (by omega) (by omega) HQ hn1 (by omega))
      clear hlow hbl3 hk03 hk13 HRr HTr hpdr
      go_wp2_with fail
      refine HUC.out.mono ?_
      rintro e w7 ⟨rfl, hb7, hR7⟩
      have hG7 : Grid w7 w3.heap.size w3.heap.size (fun k => w3.heap.size + 1 + 1 + k) K nn (cutD lb K) :=
        ⟨(hb7.block w3.heap.size (by omega)).trans hte, hR7, by intro a b _ _ h; omega, Nat.le_refl _, by intro k _; omega⟩
      have hX := hG7.mat (by omega)
      have hB7 := hBw.trans (hb7.mono (by omega))
      have hk07 := (hb7.cell (p := ⟨w.heap.size, 0, none⟩) (by simp; omega)).trans hk0r
      have hk17 := (hb7.cell (p := ⟨w.heap.size, 1, none⟩) (by simp; omega)).trans hk1r
      have hpd7 := (hb7.cell (p := ⟨w3.heap.size + 1, 0, none⟩) (by simp)).trans hpdq
      have HE := Lib.hid (encode_calls (M := M) (cS := K) hX hK (by omega) (by omega) (by omega) (FoldAt.below hF hB7))
      clear hk0r hk1r hte hR7 hG7 HUC hszr HSr
      go_wp2_with fail
      refine HE.out.mono ?_
      rintro e w8 ⟨A8, c8, b8, rfl, hG8, hb8⟩
      go_wp2_with fail
      go_ret2
      exact ⟨A8, c8, b8, rfl, hG8.lower hB7.size, hB7.trans (hb8.mono hB7.size)⟩

end Go.Proofs.YtibidlgikecelaaDoor
