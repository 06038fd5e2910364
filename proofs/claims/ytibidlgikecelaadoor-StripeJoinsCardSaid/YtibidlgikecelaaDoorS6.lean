/- Contracts: stripe.Join's closures, stripe.units with the second one. -/
import Derived.Test.YtibidlgikecelaaDoorS5
namespace Go.Proofs.YtibidlgikecelaaDoor
open Go.RowKit
set_option linter.unusedVariables false
set_option linter.unusedSimpArgs false

set_option maxHeartbeats 400000 in
theorem join1_calls {w : World} {pn nn ll c : Nat} {X : Option Addr} (hpn : w.cell? ⟨pn, 0, none⟩ = some (.int .i64 (nn : Int))) (h : ll = 0 ∨ ll = nn) :
    Calls Tryd.prog 85 #[.slice X ll c, .pointer (some ⟨pn, 0, none⟩)] w fun e w' => e = .returned (.bool false) ∧ w = w' := by
  by_cases h0 : ll = 0
  · have hl0 : ((ll : Int) != 0) = false := by simp; omega
    clear h0 h
    go_enter Tryd.func85, Tryd.ntmps85
    go_wp2_with fail
    go_ret
    exact ⟨rfl, rfl⟩
  · have hl0 : ((ll : Int) != 0) = true := by simp; omega
    have hln : ((ll : Int) != (nn : Int)) = false := by simp; omega
    clear h0 h
    go_enter Tryd.func85, Tryd.ntmps85
    go_wp2_with fail
    go_ret
    exact ⟨rfl, rfl⟩

set_option maxHeartbeats 400000 in
set_option maxRecDepth 100000 in
theorem join1_idx {w : World} {A : Option Addr} {n c : Nat} {p : Value} {vs : List Value} (hA : At w A vs) (hn : n = vs.length) (hmax : n ≤ 1000000)
    (HF : ∀ (i : Nat) v, vs[i]? = some v → Calls Tryd.prog 85 #[v, p] w fun e w' => e = .returned (.bool false) ∧ w = w') :
    Calls Tryd.prog 63 #[.slice A n c, .func (.func 85) #[] #[p]] w fun e w' => e = .returned (.int .i64 (-1)) ∧ w = w' := by
  subst hn
  go_enter Tryd.func63, Tryd.ntmps63
  go_wp2_with fail
  go_loop [8] (fun s8 => ∃ j : Nat, j ≤ vs.length ∧ s8 = .int .i64 ((j : Nat) : Int)) (fun s8 => vs.length - (intOf s8).toNat)
  case atStart => exact ⟨0, by omega, rfl⟩
  case round =>
    obtain ⟨j, hj, rfl⟩ := hrel
    by_cases hjl : j < vs.length
    · obtain ⟨b', o', rfl, hc⟩ := hA j _ (List.getElem?_eq_getElem hjl)
      have hC := Lib.hid (HF j _ (List.getElem?_eq_getElem hjl))
      have hji : (j : Int) < (vs.length : Int) := by omega
      generalize vs[j] = v at *
      go_wp2_with fail
      refine hC.out.mono ?_
      rintro e w' ⟨rfl, rfl⟩
      go_wp2_with fail
      exact ⟨⟨j + 1, by omega, by go_num⟩, by simp [intOf]; omega⟩
    · obtain rfl : j = vs.length := by omega
      go_wp2_with fail
      go_ret
      exact ⟨rfl, rfl⟩

set_option maxHeartbeats 400000 in
set_option maxRecDepth 100000 in
theorem join1_has {w : World} {A : Option Addr} {n c : Nat} {p : Value} {vs : List Value} (hA : At w A vs) (hn : n = vs.length) (hmax : n ≤ 1000000)
    (HF : ∀ (i : Nat) v, vs[i]? = some v → Calls Tryd.prog 85 #[v, p] w fun e w' => e = .returned (.bool false) ∧ w = w') :
    Calls Tryd.prog 69 #[.slice A n c, .func (.func 85) #[] #[p]] w fun e w' => e = .returned (.bool false) ∧ w = w' := by
  subst hn
  have HC0 := join1_idx (c := c) hA rfl hmax HF
  obtain ⟨r, hr⟩ : ∃ r : Int, -1 = r := ⟨_, rfl⟩
  rw [hr] at HC0
  have HC := Lib.hid HC0
  have HR := Lib.hid hr
  clear HF HC0 hr
  go_enter Tryd.func69, Tryd.ntmps69
  go_wp2_with fail
  refine HC.out.mono ?_
  rintro e w' ⟨rfl, rfl⟩
  go_wp2_with fail
  go_ret
  refine ⟨ret_bool ?_, rfl⟩
  rw [← HR.out]
  rfl

/-- What one unit's copy leaves. -/
def join1 (h : Nat → B8) (at' off : Nat) (f : Nat → B8) : Nat → B8 := fun j => if at' ≤ j ∧ j < at' + 8 then h (off + (j - at')) else f j
theorem join1_row {h : Nat → B8} {at' off nn N : Nat} {f : Nat → B8} (h1 : off + 8 ≤ nn) (h2 : at' + 8 ≤ N) : rowL N (join1 h at' off f) = (rowL N f).take at' ++ (((rowL nn h).drop off).take 8 ++ (rowL N f).drop (at' + (((rowL nn h).drop off).take 8).length)) := by
  have hL : (((rowL nn h).drop off).take 8).length = 8 := by simp; omega
  rw [hL]
  apply List.ext_getElem?
  intro k
  rw [List.getElem?_append]
  simp only [List.length_take, length_rowL]
  by_cases hk : k < N
  · rw [rowL_get hk]
    by_cases h3 : k < at'
    · rw [if_pos (by omega), List.getElem?_take, if_pos h3, rowL_get hk]
      unfold join1
      rw [if_neg (by omega)]
    · rw [if_neg (by omega), List.getElem?_append, hL, Nat.min_eq_left (by omega : at' ≤ N)]
      by_cases h4 : k - at' < 8
      · rw [if_pos h4, List.getElem?_take, if_pos h4, List.getElem?_drop, rowL_get (by omega)]
        unfold join1
        rw [if_pos (by omega)]
      · rw [if_neg h4, List.getElem?_drop]
        have e : at' + 8 + (k - at' - 8) = k := by omega
        rw [e, rowL_get hk]
        unfold join1
        rw [if_neg (by omega)]
  · rw [List.getElem?_eq_none (by simp; omega), if_neg (by omega), List.getElem?_eq_none]
    simp
    omega

set_option maxHeartbeats 800000 in
set_option maxRecDepth 100000 in
theorem join2_calls {w : World} {pb pa bb bk g at' k off nn N R cA : Nat} {f h : Nat → B8} (hpb : w.cell? ⟨pb, 0, none⟩ = some (.slice (some ⟨bb, 0, none⟩) N N)) (hR : RowB w bb (rowL N f)) (hN : N ≤ 300000)
    (hpa : w.cell? ⟨pa, 0, none⟩ = some (.slice (some ⟨g, 0, none⟩) R cA)) (hk : k < R) (hR2 : R ≤ 255) (hg : w.cell? ⟨g, k, none⟩ = some (.slice (some ⟨bk, 0, none⟩) nn nn)) (hH : RowB w bk (rowL nn h)) (hoff : off + 8 ≤ nn) (hnn : nn ≤ 1000) (hat : at' + 8 ≤ N)
    (hbb : pb ≠ bb) (hbd : pa ≠ bb) (hbg : g ≠ bb) :
    Calls Tryd.prog 86 #[.int .i64 (at' : Int), .int .i64 (k : Int), .int .i64 (off : Int), .pointer (some ⟨pb, 0, none⟩), .pointer (some ⟨pa, 0, none⟩)] w
      fun e w' => e = .returned (.tuple #[]) ∧ w.grownBy w' (some bb) ∧ RowB w' bb (rowL N (join1 h at' off f)) := by
  go_enter Tryd.func86, Tryd.ntmps86
  go_wp2_with fail
  have hpbD : w.drew.cell? ⟨pb, 0, none⟩ = some (.slice (some ⟨bb, 0, none⟩) N N) := hpb
  have hpaD : w.drew.cell? ⟨pa, 0, none⟩ = some (.slice (some ⟨g, 0, none⟩) R cA) := hpa
  have hgD : w.drew.cell? ⟨g, k, none⟩ = some (.slice (some ⟨bk, 0, none⟩) nn nn) := hg
  have hRD : RowB w.drew bb (rowL N f) := hR
  have hHD : RowB w.drew bk (rowL nn h) := hH
  have hgr : w.grownBy w.drew (some bb) := grown_of_below (belowN 1) _
  refine wp_region_held_drew (S := fun w' => w'.cell? ⟨pb, 0, none⟩ = some (.slice (some ⟨bb, 0, none⟩) N N) ∧ w'.cell? ⟨pa, 0, none⟩ = some (.slice (some ⟨g, 0, none⟩) R cA) ∧ w'.cell? ⟨g, k, none⟩ = some (.slice (some ⟨bk, 0, none⟩) nn nn)) (by kernel_rfl) ⟨hpbD, hpaD, hgD⟩ (fun hHeld => ?_)
  generalize w.drew = WD at *
  clear hpb hpa hg hR hH
  have hsl1 : 0 ≤ (off : Int) + 8 ∧ (off : Int) + 8 ≤ (nn : Int) := by omega
  have hsl2 : off ≤ off + 8 := by omega
  have hsl3 : ((off : Int) + 8).toNat = off + 8 := by omega
  have hsl4 : ¬ nn = off := by omega
  have hsl5 : ¬ N = at' := by omega
  have hsl6 : at' ≤ N := by omega
  have hki : (k : Int) < (R : Int) := by omega
  have hwk : IntKind.i64.wrap (k : Int) = (k : Int) := IntWalk.i64_in _ (by omega)
  have hwo : IntKind.i64.wrap ((off : Int) + 8) = (off : Int) + 8 := IntWalk.i64_in _ (by omega)
  refine wpAnyH_take (i := 0) (v := ?_) rfl (by kernel_rfl) (by kernel_rfl) (by kernel_rfl) (fun _ _ _ h => h) (Or.inl ⟨by rfl, ?_⟩) (by assumption) ?_; rotate_left; (intro w hSw; (try dsimp only at hSw); go_simp; (first | done | (with_reducible rfl))); (try simp only [List.getElem_toArray, List.getElem_cons_succ, List.getElem_cons_zero, Act.put, List.setIfInBounds_toArray, List.set_cons_zero, List.set_cons_succ])
  refine wpAnyH_take (i := 1) (v := ?_) rfl (by kernel_rfl) (by kernel_rfl) (by kernel_rfl) (fun _ _ _ h => h) (Or.inl ⟨by rfl, ?_⟩) (by assumption) ?_; rotate_left; (intro w hSw; (try dsimp only at hSw); go_simp; (first | done | (with_reducible rfl))); (try simp only [List.getElem_toArray, List.getElem_cons_succ, List.getElem_cons_zero, Act.put, List.setIfInBounds_toArray, List.set_cons_zero, List.set_cons_succ])
  refine wpAnyH_take (i := 2) (v := ?_) rfl (by kernel_rfl) (by kernel_rfl) (by kernel_rfl) (fun _ _ _ h => h) (Or.inl ⟨by rfl, ?_⟩) (by assumption) ?_; rotate_left; (intro w hSw; (try dsimp only at hSw); go_simp; (first | done | (with_reducible rfl))); (try simp only [List.getElem_toArray, List.getElem_cons_succ, List.getElem_cons_zero, Act.put, List.setIfInBounds_toArray, List.set_cons_zero, List.set_cons_succ])
  refine wpAnyH_take (i := 3) (v := ?_) rfl (by kernel_rfl) (by kernel_rfl) (by kernel_rfl) (fun _ _ _ h => h) (Or.inl ⟨by rfl, ?_⟩) (by assumption) ?_; rotate_left; (intro w hSw; (try dsimp only at hSw); go_simp; (first | done | (with_reducible rfl))); (try simp only [List.getElem_toArray, List.getElem_cons_succ, List.getElem_cons_zero, Act.put, List.setIfInBounds_toArray, List.set_cons_zero, List.set_cons_succ])
  refine wpAnyH_take (i := 4) (v := ?_) rfl (by kernel_rfl) (by kernel_rfl) (by kernel_rfl) (fun _ _ _ h => h) (Or.inl ⟨by rfl, ?_⟩) (by assumption) ?_; rotate_left; (intro w hSw; (try dsimp only at hSw); go_simp; (first | done | (with_reducible rfl))); (try simp only [List.getElem_toArray, List.getElem_cons_succ, List.getElem_cons_zero, Act.put, List.setIfInBounds_toArray, List.set_cons_zero, List.set_cons_succ])
  refine wpAnyH_take (i := 5) (v := ?_) rfl (by kernel_rfl) (by kernel_rfl) (by kernel_rfl) (fun _ _ _ h => h) (Or.inl ⟨by rfl, ?_⟩) (by assumption) ?_; rotate_left; (intro w hSw; (try dsimp only at hSw); go_simp; (first | done | (with_reducible rfl))); (try simp only [List.getElem_toArray, List.getElem_cons_succ, List.getElem_cons_zero, Act.put, List.setIfInBounds_toArray, List.set_cons_zero, List.set_cons_succ])
  refine wpAnyH_take (i := 6) (v := ?_) rfl (by kernel_rfl) (by kernel_rfl) (by kernel_rfl) (fun _ _ _ h => h) (Or.inl ⟨by rfl, ?_⟩) (by assumption) ?_; rotate_left; (intro w hSw; (try dsimp only at hSw); go_simp; (first | done | (with_reducible rfl))); (try simp only [List.getElem_toArray, List.getElem_cons_succ, List.getElem_cons_zero, Act.put, List.setIfInBounds_toArray, List.set_cons_zero, List.set_cons_succ])
  refine wpAnyH_take (i := 7) (v := ?_) rfl (by kernel_rfl) (by kernel_rfl) (by kernel_rfl) (fun _ _ _ h => h) (Or.inl ⟨by rfl, ?_⟩) (by assumption) ?_; rotate_left; (intro w hSw; (try dsimp only at hSw); go_simp; (first | done | (with_reducible rfl))); (try simp only [List.getElem_toArray, List.getElem_cons_succ, List.getElem_cons_zero, Act.put, List.setIfInBounds_toArray, List.set_cons_zero, List.set_cons_succ])
  refine wpAnyH_take (i := 8) (v := ?_) rfl (by kernel_rfl) (by kernel_rfl) (by kernel_rfl) (fun _ _ _ h => h) (Or.inl ⟨by rfl, ?_⟩) (by assumption) ?_; rotate_left; (intro w hSw; (try dsimp only at hSw); go_simp; (first | done | (with_reducible rfl))); (try simp only [List.getElem_toArray, List.getElem_cons_succ, List.getElem_cons_zero, Act.put, List.setIfInBounds_toArray, List.set_cons_zero, List.set_cons_succ])
  refine wpAnyH_take (i := 9) (v := ?_) rfl (by kernel_rfl) (by kernel_rfl) (by kernel_rfl) (fun _ _ _ h => h) (Or.inl ⟨by rfl, ?_⟩) (by assumption) ?_; rotate_left; (intro w hSw; (try dsimp only at hSw); go_simp; (first | done | (with_reducible rfl))); (try simp only [List.getElem_toArray, List.getElem_cons_succ, List.getElem_cons_zero, Act.put, List.setIfInBounds_toArray, List.set_cons_zero, List.set_cons_succ])
  refine wpAnyH_take (i := 10) (v := ?_) rfl (by kernel_rfl) (by kernel_rfl) (by kernel_rfl) (fun _ _ _ h => h) (Or.inl ⟨by rfl, ?_⟩) (by assumption) ?_; rotate_left; (intro w hSw; (try dsimp only at hSw); go_simp; (first | done | (with_reducible rfl))); (try simp only [List.getElem_toArray, List.getElem_cons_succ, List.getElem_cons_zero, Act.put, List.setIfInBounds_toArray, List.set_cons_zero, List.set_cons_succ])
  have hA2 : At WD (some ⟨bk, off, none⟩) (bys (((rowL nn h).drop off).take 8)) := by
    have h' := (hHD.at.drop off nn (by simp)).take 8
    unfold cutA at h'
    rw [if_neg hsl4] at h'
    by_cases h0 : off = 0
    · subst h0
      simpa [bys, List.map_drop, List.map_take, Addr.add] using h'
    · simpa [bys, List.map_drop, List.map_take, Addr.add, h0] using h'
  refine wpAnyH_ready (rs := [11]) (by kernel_rfl) (by simp) ?_; refine AllReadyH.cons rfl (fun KK hKK => ?_) AllReadyH.nil
  refine step_copy_row rfl (.tmp 10) (.tmp 18) rfl rfl rfl hRD hA2 (by rw [List.length_take, List.length_drop, length_rowL]; show min 8 (nn - off) = min _ (N - at'); omega) (by simp; omega) (by simp; omega) ?_
  intro w4 hr4 hg4
  refine hKK.out _ _ ⟨hg4.cell hpbD (by simpa using hbb), hg4.cell hpaD (by simpa using hbd), hg4.cell hgD (by simpa using hbg)⟩ (fun hHeld => ?_)
  clear hKK KK
  (try simp only [List.getElem_toArray, List.getElem_cons_succ, List.getElem_cons_zero, Act.put, List.setIfInBounds_toArray, List.set_cons_zero, List.set_cons_succ])
  refine wpAnyH_done (by kernel_rfl) ?_ _
  rw [← join1_row hoff hat] at hr4
  go_end0
  exact ⟨rfl, grown_trans hgr hg4, hr4⟩

/-- The bytes that shards tell, and they in the making. -/
def joinD (K : Nat) (Q : Mx) : Nat → B8 := fun p => Q (p / 8 % K) (p / (8 * K) * 8 + p % 8)
def joinP (K : Nat) (Q : Mx) (m : Nat) : Nat → B8 := fun p => if p < m then joinD K Q p else 0#8
theorem joinP_zero (K : Nat) (Q : Mx) : joinP K Q 0 = fun _ => 0#8 := by funext p; simp [joinP]
theorem joinP_step {K u k : Nat} {Q : Mx} (hk : k < K) : join1 (Q k) (8 * u * K + k * 8) (8 * u) (joinP K Q (8 * u * K + k * 8)) = joinP K Q (8 * u * K + k * 8 + 8) := by
  funext p
  unfold join1
  by_cases h1 : 8 * u * K + k * 8 ≤ p ∧ p < 8 * u * K + k * 8 + 8
  · rw [if_pos h1]
    unfold joinP joinD
    rw [if_pos h1.2]
    have h2 : 8 * u * K = 8 * (K * u) := by rw [Nat.mul_assoc, Nat.mul_comm u K]
    have h3 : p / 8 = K * u + k := by omega
    have h4 : p / 8 % K = k := by rw [h3, Nat.mul_add_mod, Nat.mod_eq_of_lt hk]
    have h5 : p / (8 * K) = u := by rw [← Nat.div_div_eq_div_mul, h3, Nat.mul_add_div (by omega), Nat.div_eq_of_lt hk, Nat.add_zero]
    rw [h4, h5]
    congr 1
    omega
  · rw [if_neg h1]
    unfold joinP
    by_cases h2 : p < 8 * u * K + k * 8
    · rw [if_pos h2, if_pos (by omega)]
    · rw [if_neg h2, if_neg (by omega)]
theorem joinP_end (N K : Nat) (Q : Mx) : rowL N (joinP K Q N) = rowL N (joinD K Q) := rowL_congr fun j hj => by simp [joinP, hj]

set_option maxHeartbeats 1000000 in
set_option maxRecDepth 100000 in
theorem unitsJoin_calls {w : World} {pb pa bb g nn q K M R cA N : Nat} {blk : Nat → Nat} {Q : Mx} (hpb : w.cell? ⟨pb, 0, none⟩ = some (.slice (some ⟨bb, 0, none⟩) N N)) (hR : RowB w bb (rowL N fun _ => 0#8))
    (hpa : w.cell? ⟨pa, 0, none⟩ = some (.slice (some ⟨g, 0, none⟩) R cA)) (hg : ∀ k, k < K → w.cell? ⟨g, k, none⟩ = some (.slice (some ⟨blk k, 0, none⟩) nn nn)) (hH : ∀ k, k < K → RowB w (blk k) (rowL nn (Q k)))
    (hbb : pb ≠ bb) (hba : pa ≠ bb) (hbg : g ≠ bb) (hbk : ∀ k, k < K → blk k ≠ bb) (hnq : Hid (nn = 8 * q)) (hnn : nn ≤ 1000) (hK : K ≤ R) (hR2 : R ≤ 255) (hN : Hid (N = nn * K)) :
    Calls Tryd.prog 73 #[.agg #[.int .i64 (K : Int), .int .i64 (M : Int)], .int .i64 (nn : Int), .func (.func 86) #[] #[.pointer (some ⟨pb, 0, none⟩), .pointer (some ⟨pa, 0, none⟩)]] w
      fun e w' => e = .returned (.tuple #[]) ∧ w.grownBy w' (some bb) ∧ RowB w' bb (rowL N (joinD K Q)) := by
  have hb1 := below1' w (.cells #[.int .i64 (K : Int), .int .i64 (M : Int)] 38)
  have hk0 : (w.alloc (.cells #[.int .i64 (K : Int), .int .i64 (M : Int)] 38)).cell? ⟨w.heap.size, 0, none⟩ = some (.int .i64 (K : Int)) := cell_of_row _ _ 0 _ _ (0, 0) (heap_alloc_new w _)
  have hN3 : N ≤ 300000 := by
    rw [hN.out]
    exact Nat.le_trans (Nat.mul_le_mul hnn (Nat.le_trans hK hR2)) (by omega)
  go_enter Tryd.func73, Tryd.ntmps73
  go_wp2_with fail
  generalize w.alloc (.cells #[.int .i64 (K : Int), .int .i64 (M : Int)] 38) = w1 at *
  have hrl := hR.lt
  have hgw := grown_of_below hb1 (some bb)
  have hR1 : RowB w1 bb (rowL N (joinP K Q 0)) := by rw [joinP_zero]; exact hR.below hb1 hrl
  clear hb1 hR
  go_loopw [6] (fun s wr => ∃ u o : Nat, u ≤ q ∧ o ≤ nn ∧ Hid (o = 8 * u) ∧ s = .int .i64 ((o : Nat) : Int) ∧ RowB wr bb (rowL N (joinP K Q (o * K))) ∧ w.grownBy wr (some bb) ∧ wr.cell? ⟨w.heap.size, 0, none⟩ = some (.int .i64 (K : Int))) (fun s _ => nn - (intOf s).toNat)
  case atStart => exact ⟨0, 0, Nat.zero_le _, Nat.zero_le _, rfl, rfl, by rw [Nat.zero_mul]; exact hR1, hgw, hk0⟩
  case round =>
    obtain ⟨u, o, hu, ho, HO, rfl, hRr, hGr, hkr⟩ := hrel
    rename World => w2
    clear hR1 hgw hk0
    by_cases huq : o < nn
    · have hoi : (o : Int) < (nn : Int) := by omega
      have hu8 : o + 8 ≤ nn := by rw [hnq.out] at huq ⊢; rw [HO.out] at huq ⊢; omega
      have huq2 : u + 1 ≤ q := by rw [hnq.out] at hu8; rw [HO.out] at hu8; omega
      have hoK : (o : Int) * (K : Int) = ((o * K : Nat) : Int) := by simp
      have hoN : o * K + 8 * K ≤ N := by rw [hN.out, ← Nat.add_mul]; exact Nat.mul_le_mul_right _ hu8
      have HP8 : Hid ((o + 8) * K = o * K + K * 8) := Lib.hid (by rw [Nat.add_mul, Nat.mul_comm 8 K])
      generalize hpe : o * K = p at *
      have HP := Lib.hid hpe
      clear hpe
      go_wp2_with fail
      go_loopw [15] (fun s wr => ∃ k : Nat, k ≤ K ∧ s = .int .i64 ((k : Nat) : Int) ∧ RowB wr bb (rowL N (joinP K Q (p + k * 8))) ∧ w.grownBy wr (some bb) ∧ wr.cell? ⟨w.heap.size, 0, none⟩ = some (.int .i64 (K : Int))) (fun s _ => K - (intOf s).toNat)
      case atStart => exact ⟨0, Nat.zero_le _, rfl, hRr, hGr, hkr⟩
      case round =>
        obtain ⟨k, hkK, rfl, hR3, hG3, hk3⟩ := hrel
        clear hRr hGr hkr
        by_cases hkl : k < K
        · have hki : (k : Int) < (K : Int) := by omega
          have HCL := join2_calls (at' := p + k * 8) (off := o) (k := k) (hG3.cell hpb (by simpa using hbb)) hR3 hN3 (hG3.cell hpa (by simpa using hba)) (by omega : k < R) hR2 (hG3.cell (hg k hkl) (by simpa using hbg)) ((hH k hkl).grown hG3 (by simpa using hbk k hkl)) hu8 hnn (by omega) hbb hba hbg
          rw [show ((p + k * 8 : Nat) : Int) = (p : Int) + (k : Int) * 8 by omega, ← HP.out, HO.out, joinP_step hkl, ← HO.out, HP.out] at HCL
          replace HCL := Lib.hid HCL
          go_wp2_with fail
          refine HCL.out.mono ?_
          rintro e w4 ⟨rfl, hg4, hr4⟩
          have hG4 := grown_trans hG3 hg4
          have hk4 := hg4.cell hk3 (by simp; omega)
          rw [show p + k * 8 + 8 = p + (k + 1) * 8 by omega] at hr4
          clear HCL hR3 hG3 hk3 hg4
          go_wp2_with fail
          exact ⟨⟨k + 1, by omega, by go_num, hr4, hG4, hk4⟩, by simp [intOf]; omega⟩
        · obtain rfl : k = K := by omega
          have HO2 : Hid (o + 8 = 8 * (u + 1)) := Lib.hid (by rw [HO.out]; omega)
          rw [← HP8.out] at hR3
          go_wp2_with fail
          exact ⟨⟨u + 1, o + 8, huq2, hu8, HO2, by go_num, hR3, hG3, hk3⟩, by simp [intOf]; omega⟩
    · have hoq : o = nn := by omega
      have hoi : ¬ (o : Int) < (nn : Int) := by omega
      have hRf : RowB w2 bb (rowL N (joinD K Q)) := by
        have := hRr
        rwa [hoq, ← hN.out, joinP_end] at this
      clear hoq
      go_wp2_with fail
      go_end0
      exact ⟨rfl, hGr, hRf⟩

end Go.Proofs.YtibidlgikecelaaDoor
