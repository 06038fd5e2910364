/- Contract: amphoraref04.Cut. -/
import Derived.Test.YtibidlgikecelaaDoorT28
import Derived.Test.YtibidlgikecelaaDoorS5
namespace Go.Proofs.YtibidlgikecelaaDoor
open Go.RowKit
set_option linter.unusedVariables false
set_option linter.unusedSimpArgs false

/-- Rows in the making, by units: those above k have one unit more. -/
def col8 (N k u : Nat) (Q : Mx) : List (List B8) := (List.range N).map fun t => if t < k then rowL (8 * u + 8) (Q t) else rowL (8 * u) (Q t)
@[simp] theorem length_col8 (N k u : Nat) (Q : Mx) : (col8 N k u Q).length = N := by simp [col8]
theorem col8_get {N k u t : Nat} {Q : Mx} (h : t < N) : (col8 N k u Q)[t]? = some (if t < k then rowL (8 * u + 8) (Q t) else rowL (8 * u) (Q t)) := by simp [col8, h]
theorem col8_zero (N u : Nat) (Q : Mx) : col8 N 0 u Q = rowsL N (8 * u) Q := by simp [col8, rowsL]
theorem col8_full (N u : Nat) (Q : Mx) : col8 N N u Q = rowsL N (8 * (u + 1)) Q := by
  refine List.map_congr_left fun t ht => ?_
  rw [if_pos (List.mem_range.1 ht)]
  rfl
theorem col8_set (N k u : Nat) (Q : Mx) : (col8 N k u Q).set k (rowL (8 * u + 8) (Q k)) = col8 N (k + 1) u Q := by
  apply List.ext_getElem?
  intro t
  rw [List.getElem?_set]
  by_cases ht : t < N
  · rw [col8_get ht, col8_get ht]
    by_cases hk : k = t
    · subst hk; simp [ht]
    · have : (t < k + 1) = (t < k) := by simp; omega
      simp [hk, this]
  · have e1 : (col8 N k u Q)[t]? = none := List.getElem?_eq_none (by simpa using ht)
    have e2 : (col8 N (k + 1) u Q)[t]? = none := List.getElem?_eq_none (by simpa using ht)
    rw [e2]
    by_cases hk : k = t
    · subst hk; simp [ht]
    · simp [hk, e1]
/-- A unit of a row. -/
def unitL (f : Nat → B8) (u : Nat) : List B8 := (List.range 8).map fun j => f (8 * u + j)
theorem rowL_unit (u : Nat) (f : Nat → B8) : rowL (8 * u + 8) f = rowL (8 * u) f ++ unitL f u := by
  apply List.ext_getElem?
  intro i
  by_cases h : i < 8 * u
  · rw [List.getElem?_append_left (by simpa using h), rowL_get h, rowL_get (by omega)]
  · rw [List.getElem?_append_right (by simpa using h), length_rowL]
    by_cases h2 : i < 8 * u + 8
    · rw [rowL_get h2]
      unfold unitL
      rw [List.getElem?_map, List.getElem?_range (by omega)]
      simp only [Option.map_some]
      congr 2
      omega
    · rw [List.getElem?_eq_none (by simp; omega), List.getElem?_eq_none (by unfold unitL; simp; omega)]
theorem unit_full {lb : List B8} {K k u n : Nat} (hn : (u * K + k) * 8 + 8 ≤ lb.length + n) : ((lb ++ List.replicate n 0#8).drop ((u * K + k) * 8)).take 8 = unitL (cutD lb K k) u := by
  apply List.ext_getElem?
  intro j
  unfold unitL
  by_cases hj : j < 8
  · rw [List.getElem?_take, if_pos hj, List.getElem?_drop, List.getElem?_map, List.getElem?_range hj]
    simp only [Option.map_some]
    have e1 : (8 * u + j) / 8 = u := by omega
    have e2 : (8 * u + j) % 8 = j := by omega
    have e3 : u * 8 * K + k * 8 + j = (u * K + k) * 8 + j := by
      rw [Nat.add_mul, Nat.mul_right_comm]
    unfold cutD
    rw [e1, e2, e3]
    have hp : (u * K + k) * 8 + j < lb.length + n := by omega
    generalize (u * K + k) * 8 + j = p at *
    by_cases hpl : p < lb.length
    · rw [List.getElem?_append_left hpl, List.getD_eq_getElem?_getD, List.getElem?_eq_getElem hpl]; rfl
    · rw [List.getElem?_append_right (by omega), List.getD_eq_getElem?_getD, (List.getElem?_eq_none (by omega) : lb[p]? = none), List.getElem?_replicate, if_pos (by omega)]; rfl
  · rw [List.getElem?_take, if_neg hj, List.getElem?_eq_none (by simp; omega)]

set_option maxHeartbeats 4000000 in
set_option maxRecDepth 100000 in
theorem rcut_calls {w : World} {n c K M : Nat} {A : Option Addr} {lb : List B8} (hA : At w A (bys lb)) (hn : n = lb.length) (hc : lb.length ≤ c) (hnil : A = none → c = 0) (hla : lb.length ≤ 400) (hK : 1 ≤ K) (hKM : K + M ≤ 255) :
    Calls Tryd.prog 49 #[.agg #[.int .i64 (K : Int), .int .i64 (M : Int)], .slice A n c] w (RetX w (rowsL (K + M) (lenS K n) (mulM K (genM K) (cutD lb K))) 0) := by
  obtain ⟨wa, hwa, hb1, hk0, hk1, hs1⟩ := code_box w (K : Int) (M : Int)
  have HWA := Lib.hid hwa
  clear hwa
  have HLN := Lib.hid (rlength_calls (w := wa) (s := n) hK hKM (by omega))
  have HST := fun (W : World) => Lib.hid (stripes_calls (w := W) (s := n) hK hKM (by omega))
  have hroom : n ≤ lenS K n * K := lenS_room hK
  have hpos := lenS_pos K n
  have hle := lenS_le (K := K) (s := n) hK (by omega)
  rw [lenS_q] at HLN hroom hpos hle ⊢
  generalize qS K n = q at *
  have hl0 : ((8 * q : Nat) : Int) ≠ 0 := by omega
  have hl0b : (((8 * q : Nat) : Int) == 0) = false := beq_eq_false_iff_ne.2 hl0
  have hqK : (q : Int) * (K : Int) = ((q * K : Nat) : Int) := by simp
  have hqK2 : q * K ≤ 125 * 255 := Nat.mul_le_mul (by omega) (by omega)
  have hqK3 : 8 * q * K = q * K * 8 := by rw [Nat.mul_assoc, Nat.mul_comm]
  rw [hqK3] at hroom
  have HNL := Lib.hid hn
  generalize hp : q * K = p at *
  have HP := Lib.hid hp
  clear hp hqK3 hn
  go_enter Tryd.func49, Tryd.ntmps49
  go_wp2_with fail
  have hwa := HWA.out
  rw [← hwa]
  clear hwa HWA
  refine HLN.out.mono ?_
  rintro e w1 ⟨rfl, h1⟩
  have hB1 := hb1.trans (h1.mono hb1.size)
  replace hk0 := (h1.cell (p := ⟨w.heap.size, 0, none⟩) (block_lt hk0)).trans hk0
  replace hk1 := (h1.cell (p := ⟨w.heap.size, 1, none⟩) (block_lt hk1)).trans hk1
  clear HLN hb1 h1 hs1
  go_wp2_with fail
  refine (HST w1).out.mono ?_
  rintro e w2 ⟨rfl, h2⟩
  have hB2 := hB1.trans (h2.mono hB1.size)
  replace hk0 := (h2.cell (p := ⟨w.heap.size, 0, none⟩) (block_lt hk0)).trans hk0
  replace hk1 := (h2.cell (p := ⟨w.heap.size, 1, none⟩) (block_lt hk1)).trans hk1
  clear HST hB1 h2
  go_wp2_with fail
  have hk0D : w2.drew.cell? ⟨w.heap.size, 0, none⟩ = some (.int .i64 (K : Int)) := hk0
  have hk1D : w2.drew.cell? ⟨w.heap.size, 1, none⟩ = some (.int .i64 (M : Int)) := hk1
  have hBD : Below w.heap.size w w2.drew := hB2.drew
  refine wp_region_held_drew (S := fun w' => w'.cell? ⟨w.heap.size, 0, none⟩ = some (.int .i64 (K : Int))) (by kernel_rfl) hk0D (fun hHeld => ?_)
  generalize w2.drew = WD at *
  clear hk0 hk1 hB2
  have hAD := hA.below hBD
  have hw1 : IntKind.i64.wrap (p : Int) = (p : Int) := IntWalk.i64_in _ (by omega)
  have hw2 : IntKind.i64.wrap ((p : Int) * 8) = (p : Int) * 8 := IntWalk.i64_in _ (by omega)
  have hw3 : IntKind.i64.wrap ((p : Int) * 8 - (n : Int)) = (p : Int) * 8 - (n : Int) := IntWalk.i64_in _ (by omega)
  refine wpAnyH_take (i := 1) (v := ?_) rfl (by kernel_rfl) (by kernel_rfl) (by kernel_rfl) (fun _ _ _ h => h) (Or.inl ⟨by rfl, ?_⟩) (by assumption) ?_; rotate_left; (intro w hSw; (try dsimp only at hSw); go_simp; (first | done | (with_reducible rfl))); (try simp only [List.getElem_toArray, List.getElem_cons_succ, List.getElem_cons_zero, Act.put, List.setIfInBounds_toArray, List.set_cons_zero, List.set_cons_succ])
  refine wpAnyH_take (i := 3) (v := ?_) rfl (by kernel_rfl) (by kernel_rfl) (by kernel_rfl) (fun _ _ _ h => h) (Or.inl ⟨by rfl, ?_⟩) (by assumption) ?_; rotate_left; (intro w hSw; (try dsimp only at hSw); go_simp; (first | done | (with_reducible rfl))); (try simp only [List.getElem_toArray, List.getElem_cons_succ, List.getElem_cons_zero, Act.put, List.setIfInBounds_toArray, List.set_cons_zero, List.set_cons_succ])
  refine wpAnyH_take (i := 4) (v := ?_) rfl (by kernel_rfl) (by kernel_rfl) (by kernel_rfl) (fun _ _ _ h => h) (Or.inl ⟨by rfl, ?_⟩) (by assumption) ?_; rotate_left; (intro w hSw; (try dsimp only at hSw); go_simp; (first | done | (with_reducible rfl))); (try simp only [List.getElem_toArray, List.getElem_cons_succ, List.getElem_cons_zero, Act.put, List.setIfInBounds_toArray, List.set_cons_zero, List.set_cons_succ])
  refine wpAnyH_take (i := 5) (v := ?_) rfl (by kernel_rfl) (by kernel_rfl) (by kernel_rfl) (fun _ _ _ h => h) (Or.inl ⟨by rfl, ?_⟩) (by assumption) ?_; rotate_left; (intro w hSw; (try dsimp only at hSw); go_simp; (first | done | (with_reducible rfl))); (try simp only [List.getElem_toArray, List.getElem_cons_succ, List.getElem_cons_zero, Act.put, List.setIfInBounds_toArray, List.set_cons_zero, List.set_cons_succ])
  refine wpAnyH_take (i := 6) (v := ?_) rfl (by kernel_rfl) (by kernel_rfl) (by kernel_rfl) (fun _ _ _ h => h) (Or.inl ⟨by rfl, ?_⟩) (by assumption) ?_; rotate_left; (intro w hSw; (try dsimp only at hSw); go_simp; (first | done | (with_reducible rfl))); (try simp only [List.getElem_toArray, List.getElem_cons_succ, List.getElem_cons_zero, Act.put, List.setIfInBounds_toArray, List.set_cons_zero, List.set_cons_succ])
  refine wpAnyH_take (i := 7) (v := ?_) rfl (by kernel_rfl) (by kernel_rfl) (by kernel_rfl) (fun _ _ _ h => h) (Or.inl ⟨by rfl, ?_⟩) (by assumption) ?_; rotate_left; (intro w hSw; (try dsimp only at hSw); go_simp; (first | done | (with_reducible rfl))); (try simp only [List.getElem_toArray, List.getElem_cons_succ, List.getElem_cons_zero, Act.put, List.setIfInBounds_toArray, List.set_cons_zero, List.set_cons_succ])
  refine wpAnyH_take (i := 8) (v := ?_) rfl (by kernel_rfl) (by kernel_rfl) (by kernel_rfl) (fun _ _ _ h => h) (Or.inl ⟨by rfl, ?_⟩) (by assumption) ?_; rotate_left; (intro w hSw; (try dsimp only at hSw); go_simp; (first | done | (with_reducible rfl))); (try simp only [List.getElem_toArray, List.getElem_cons_succ, List.getElem_cons_zero, Act.put, List.setIfInBounds_toArray, List.set_cons_zero, List.set_cons_succ])
  refine wpAnyH_take (i := 9) (v := ?_) rfl (by kernel_rfl) (by kernel_rfl) (by kernel_rfl) (fun _ _ _ h => h) (Or.inl ⟨by rfl, ?_⟩) (by assumption) ?_; rotate_left; (intro w hSw; (try dsimp only at hSw); go_simp; (first | done | (with_reducible rfl))); (try simp only [List.getElem_toArray, List.getElem_cons_succ, List.getElem_cons_zero, Act.put, List.setIfInBounds_toArray, List.set_cons_zero, List.set_cons_succ])
  refine wpAnyH_take (i := 10) (v := ?_) rfl (by kernel_rfl) (by kernel_rfl) (by kernel_rfl) (fun _ _ _ h => h) (Or.inl ⟨by rfl, ?_⟩) (by assumption) ?_; rotate_left; (intro w hSw; (try dsimp only at hSw); go_simp; (first | done | (with_reducible rfl))); (try simp only [List.getElem_toArray, List.getElem_cons_succ, List.getElem_cons_zero, Act.put, List.setIfInBounds_toArray, List.set_cons_zero, List.set_cons_succ])
  have hbA := below1' WD (.cells #[] 5)
  have k0A := (hbA.cell (p := ⟨w.heap.size, 0, none⟩) (block_lt hk0D)).trans hk0D
  refine wpAnyH_ready (rs := [0]) (by kernel_rfl) (by simp) ?_; refine AllReadyH.cons rfl (fun KK hKK => ?_) AllReadyH.nil
  go_simp
  go_wp2_with fail
  refine hKK.out _ _ k0A (fun hHeld => ?_)
  clear hKK KK
  (try simp only [List.getElem_toArray, List.getElem_cons_succ, List.getElem_cons_zero, Act.put, List.setIfInBounds_toArray, List.set_cons_zero, List.set_cons_succ])
  have HNL2 := HNL.out
  refine wpAnyH_ready (rs := [2]) (by kernel_rfl) (by simp) ?_; refine AllReadyH.cons rfl (fun KK hKK => ?_) AllReadyH.nil
  refine step_app_bytes rfl (.tmp 21) (.tmp 22) rfl WD.heap.size (v := .slice (some ⟨WD.heap.size, 0, none⟩) 0 0) rfl (xs := []) (World.ownsRow_lit WD #[] 0 (Nat.le_refl _) (by decide) rfl) rfl HNL2.symm (hAD.below hbA) hnil (by omega) hbA.size ?_
  intro A5 c5 w5 ho5 hb5 hg5 hc5
  simp only [Nat.zero_add, List.nil_append] at ho5 hg5 hc5 ⊢
  have k05 := (hb5.cell (p := ⟨w.heap.size, 0, none⟩) (block_lt hk0D)).trans k0A
  obtain ⟨F, hF5⟩ : ∃ F, A5 = some ⟨F, 0, none⟩ := by
    rcases ho5.2 with ⟨hv, _⟩ | ⟨g', cap', cur', hv, _⟩
    · exfalso
      have h1 := hg5.2
      injection hv with e1 e2 e3
      rw [e1] at h1
      rcases h1 with h1 | h1 <;> simp [Value.ownBlock] at h1
    · injection hv with e1 e2 e3
      exact ⟨g', e1⟩
  subst hF5
  refine hKK.out _ _ k05 (fun hHeld => ?_)
  clear hKK KK
  (try simp only [List.getElem_toArray, List.getElem_cons_succ, List.getElem_cons_zero, Act.put, List.setIfInBounds_toArray, List.set_cons_zero, List.set_cons_succ])
  refine wpAnyH_ready (rs := [11]) (by kernel_rfl) (by simp) ?_; refine AllReadyH.cons rfl (fun KK hKK => ?_) AllReadyH.nil
  refine step_app_noughts rfl (.tmp 23) (.tmp 31) rfl WD.heap.size (k := p * 8 - n) rfl ho5 rfl (by omega) (by omega) (Nat.le_trans hbA.size hb5.size) ?_
  intro A6 c6 w6 ho6 hg6
  have e8 : n + (p * 8 - n) = p * 8 := by omega
  rw [e8] at ho6
  rw [e8]
  have hp1 : 0 < p := by
    have := HP.out
    rw [← this]
    exact Nat.mul_pos (by omega) (by omega)
  obtain ⟨F6, rfl⟩ := own_block ho6 (by omega)
  have hFw := (ho5.lt F rfl).1
  have hlow := block_lt hk0D
  have k06 := hg6.cell k05 (by simp; omega)
  have k16 := hg6.cell ((hb5.cell (p := ⟨w.heap.size, 1, none⟩) (block_lt hk0D)).trans ((hbA.cell (p := ⟨w.heap.size, 1, none⟩) (block_lt hk1D)).trans hk1D)) (by simp; omega)
  refine hKK.out _ _ k06 (fun hHeld => ?_)
  clear hKK KK
  (try simp only [List.getElem_toArray, List.getElem_cons_succ, List.getElem_cons_zero, Act.put, List.setIfInBounds_toArray, List.set_cons_zero, List.set_cons_succ])
  refine wpAnyH_take (i := 12) (v := ?_) rfl (by kernel_rfl) (by kernel_rfl) (by kernel_rfl) (fun _ _ _ h => h) (Or.inl ⟨by rfl, ?_⟩) (by assumption) ?_; rotate_left; (intro w hSw; (try dsimp only at hSw); go_simp; (first | done | (with_reducible rfl))); (try simp only [List.getElem_toArray, List.getElem_cons_succ, List.getElem_cons_zero, Act.put, List.setIfInBounds_toArray, List.set_cons_zero, List.set_cons_succ])
  refine wpAnyH_done (by kernel_rfl) ?_ _
  have hB6 : Below w.heap.size w w6 := (((hBD.trans (hbA.mono hBD.size)).trans (hb5.mono hBD.size)).trans (below_of_grown hg6 (Nat.le_trans hBD.size (Nat.le_trans hbA.size hb5.size)) (by intro t ht; cases ht; exact Nat.le_trans hBD.size hFw)))
  have hF6 := own_at ho6
  have hFc := own_le ho6
  have hFl := (ho6.lt F6 rfl).2
  clear hw1 hw2 hw3 hk0D hk1D hBD hHeld hAD hbA k0A hb5 hg5 hc5 k05 ho5 hg6 ho6 HNL2
  have HF6 := Lib.hid hF6
  have hlt6 := block_lt k06
  clear hF6
  go_wp2_with (refine make_top rfl (.tmp 34) (.tmp 34) rfl K rfl rfl rfl rfl (by omega) ?_; intro w7 ht7 hb7 hs7; have HT := Lib.hid ht7; clear ht7 hs7)
  have hO7 : OwnT w7 w6.heap.size (some ⟨w6.heap.size, 0, none⟩) K (List.replicate K (.slice none 0 0)) (rowsL K 0 (cutD lb K)) := OwnT.start HT.out (Nat.le_refl _) (by omega)
  clear HT
  go_loopw [37] (fun s wr => ∃ (u : Nat) (vs : List Value), u ≤ q ∧ s = .int .i64 ((u : Nat) : Int) ∧ OwnT wr w6.heap.size (some ⟨w6.heap.size, 0, none⟩) K vs (rowsL K (8 * u) (cutD lb K)) ∧ Below w6.heap.size w6 wr) (fun s _ => q - (intOf s).toNat)
  case atStart => exact ⟨0, _, by omega, rfl, hO7, hb7⟩
  case round =>
    obtain ⟨u, vs, hu, rfl, hO, hb⟩ := hrel
    rename World => w8
    have hBw8 := hB6.trans (hb.mono hB6.size)
    have k08 := (hb.cell (p := ⟨w.heap.size, 0, none⟩) hlt6).trans k06
    clear hO7 hb7
    by_cases huq : u < q
    · have hui : (u : Int) < (q : Int) := by omega
      have huK : (u : Int) * (K : Int) = ((u * K : Nat) : Int) := by simp
      have huK2 : u * K + K ≤ p := by
        rw [← HP.out, ← Nat.succ_mul]
        exact Nat.mul_le_mul_right _ huq
      have HUF := Lib.hid (fun (k : Nat) (hk : k < K) => unit_full (lb := lb) (K := K) (k := k) (u := u) (n := p * 8 - n) (by have := HNL.out; omega))
      generalize hpu : u * K = pu at *
      have HPU := Lib.hid hpu
      clear hpu
      go_wp2_with fail
      go_loopw [42] (fun s wr => ∃ (k : Nat) (us : List Value), k ≤ K ∧ s = .int .i64 ((k : Nat) : Int) ∧ OwnT wr w6.heap.size (some ⟨w6.heap.size, 0, none⟩) K us (col8 K k u (cutD lb K)) ∧ Below w6.heap.size w6 wr) (fun s _ => K - (intOf s).toNat)
      case atStart => exact ⟨0, vs, by omega, rfl, by rw [col8_zero]; exact hO, hb⟩
      case round =>
        obtain ⟨k, us, hk, rfl, hOk, hBk⟩ := hrel
        rename World => wk
        clear hO hb
        by_cases hkN : k < K
        · have hki : (k : Int) < (K : Int) := by omega
          have kk := (hBk.cell (p := ⟨w.heap.size, 0, none⟩) hlt6).trans k06
          have hul : us.length = K := by rw [hOk.len]; simp
          have huk : us[k]? = some us[k] := List.getElem?_eq_getElem (by omega)
          have hlk : (col8 K k u (cutD lb K))[k]? = some (rowL (8 * u) (cutD lb K k)) := by rw [col8_get hkN, if_neg (Nat.lt_irrefl k)]
          generalize us[k] = v at *
          obtain ⟨hvo, _⟩ := hOk.row k v _ huk hlk
          rw [length_rowL] at hvo
          obtain ⟨Av, cv, rfl, _⟩ := own_form hvo
          have hco := hOk.own.cellAt k (by simp; omega)
          rw [huk] at hco
          have HQ := Lib.hid (col8_set K k u (cutD lb K))
          rw [rowL_unit, ← HUF.out k hkN] at HQ
          have hFk := (HF6.out.below hBk).drop ((pu + k) * 8) c6 (by have := HNL.out; simp; omega)
          have hch8 := hFk.take 8
          rw [bys_drop, bys_take] at hch8
          have hchl : ((((lb ++ List.replicate (p * 8 - n) 0#8).drop ((pu + k) * 8)).take 8)).length = 8 := by
            have := HNL.out
            simp
            omega
          generalize hch : (((lb ++ List.replicate (p * 8 - n) 0#8).drop ((pu + k) * 8)).take 8) = ch at *
          have hwm : (pu + k) * 8 ≤ p * 8 - 8 := by omega
          have hnat : ((pu : Int) + (k : Int)) * 8 = (((pu + k) * 8 : Nat) : Int) := by omega
          generalize hat : (pu + k) * 8 = at0 at *
          have HAT := Lib.hid hat
          have HCH := Lib.hid hch
          generalize rowL (8 * u) (cutD lb K k) = rk at *
          have hrk : rk.length = 8 * u := by have := hvo.1; simpa using this
          have HRK := Lib.hid hrk
          have HUK := Lib.hid huk
          have HLK := Lib.hid hlk
          clear hrk huk hlk hFk hat hch k08
          go_wp2_with fail
          have hOD : OwnT wk.drew w6.heap.size (some ⟨w6.heap.size, 0, none⟩) K us (col8 K k u (cutD lb K)) := hOk.below (belowN 1 : Below wk.heap.size wk (wk.drewN 1))
          have hBD : Below w6.heap.size w6 wk.drew := hBk.trans ((belowN 1 : Below wk.heap.size wk (wk.drewN 1)).mono hBk.size)
          have hcoD : wk.drew.cell? ⟨w6.heap.size, k, none⟩ = some (.slice Av (8 * u) cv) := hco
          have hvoD : wk.drew.ownsRow w6.heap.size 5 1 (.slice Av (8 * u) cv) (8 * u) (bys rk) := hvo
          have hchA : At wk.drew (cutA (some ⟨F6, 0, none⟩) at0 c6) (bys ch) := hch8.below (belowN 1 : Below wk.heap.size wk (wk.drewN 1))
          refine wp_region_held_drew (S := fun _ => True) (by kernel_rfl) trivial (fun _ => ?_)
          generalize wk.drew = WD at *
          rw [cutA_some (by omega), Nat.zero_add] at hchA
          have hw8 : IntKind.i64.wrap ((at0 : Int) + 8) = (at0 : Int) + 8 := IntWalk.i64_in _ (by omega)
          have hcut : ∀ w, (Instr.sliceAt 22 (.slice (some ⟨F6, 0, none⟩) (p * 8) c6) (some (.int .i64 (at0 : Int))) (some (.int .i64 ((at0 : Int) + 8))) none).run Tryd.prog w = .ok (.slice (some ⟨F6, at0, none⟩) 8 (c6 - at0)) w := fun w => cut_eq at0 (at0 + 8) (.inr rfl) (.inr (by rw [show (at0 : Int) + 8 = ((at0 + 8 : Nat) : Int) by omega])) (by omega) (by omega) ((cutA_some (by omega)).trans (by rw [Nat.zero_add])) (by omega) rfl w
          clear hOk hBk hco hvo hch8
          refine wpAnyH_take (i := 0) (v := ?_) rfl (by kernel_rfl) (by kernel_rfl) (by kernel_rfl) (fun _ _ _ h => h) (Or.inl ⟨by rfl, ?_⟩) (by assumption) ?_; rotate_left; (intro w hSw; (try dsimp only at hSw); go_simp; (first | done | (with_reducible rfl))); (try simp only [List.getElem_toArray, List.getElem_cons_succ, List.getElem_cons_zero, Act.put, List.setIfInBounds_toArray, List.set_cons_zero, List.set_cons_succ])
          refine wpAnyH_take (i := 1) (v := ?_) rfl (by kernel_rfl) (by kernel_rfl) (by kernel_rfl) (fun _ _ _ h => h) (Or.inl ⟨by rfl, ?_⟩) (by assumption) ?_; rotate_left; (intro w hSw; (try dsimp only at hSw); go_simp; (first | done | (with_reducible rfl))); (try simp only [List.getElem_toArray, List.getElem_cons_succ, List.getElem_cons_zero, Act.put, List.setIfInBounds_toArray, List.set_cons_zero, List.set_cons_succ])
          refine wpAnyH_take (i := 2) (v := ?_) rfl (by kernel_rfl) (by kernel_rfl) (by kernel_rfl) (fun _ _ _ h => h) (Or.inl ⟨by rfl, ?_⟩) (by assumption) ?_; rotate_left; (intro w hSw; (try dsimp only at hSw); go_simp; (first | done | (with_reducible rfl))); (try simp only [List.getElem_toArray, List.getElem_cons_succ, List.getElem_cons_zero, Act.put, List.setIfInBounds_toArray, List.set_cons_zero, List.set_cons_succ])
          refine wpAnyH_take (i := 3) (v := ?_) rfl (by kernel_rfl) (by kernel_rfl) (by kernel_rfl) (fun _ _ _ h => h) (Or.inl ⟨by rfl, ?_⟩) (by assumption) ?_; rotate_left; (intro w hSw; (try dsimp only at hSw); go_simp; (first | done | (with_reducible rfl))); (try simp only [List.getElem_toArray, List.getElem_cons_succ, List.getElem_cons_zero, Act.put, List.setIfInBounds_toArray, List.set_cons_zero, List.set_cons_succ])
          refine wpAnyH_take (i := 6) (v := ?_) rfl (by kernel_rfl) (by kernel_rfl) (by kernel_rfl) (fun _ _ _ h => h) (Or.inl ⟨by rfl, ?_⟩) (by assumption) ?_; rotate_left; (intro w hSw; (try dsimp only at hSw); go_simp; (first | done | (with_reducible rfl))); (try simp only [List.getElem_toArray, List.getElem_cons_succ, List.getElem_cons_zero, Act.put, List.setIfInBounds_toArray, List.set_cons_zero, List.set_cons_succ])
          refine wpAnyH_take (i := 7) (v := ?_) rfl (by kernel_rfl) (by kernel_rfl) (by kernel_rfl) (fun _ _ _ h => h) (Or.inl ⟨by rfl, ?_⟩) (by assumption) ?_; rotate_left; (intro w hSw; (try dsimp only at hSw); go_simp; (first | done | (with_reducible rfl))); (try simp only [List.getElem_toArray, List.getElem_cons_succ, List.getElem_cons_zero, Act.put, List.setIfInBounds_toArray, List.set_cons_zero, List.set_cons_succ])
          refine wpAnyH_take (i := 8) (v := ?_) rfl (by kernel_rfl) (by kernel_rfl) (by kernel_rfl) (fun _ _ _ h => h) (Or.inl ⟨by rfl, ?_⟩) (by assumption) ?_; rotate_left; (intro w hSw; (try dsimp only at hSw); go_simp; (first | done | (with_reducible rfl))); (try simp only [List.getElem_toArray, List.getElem_cons_succ, List.getElem_cons_zero, Act.put, List.setIfInBounds_toArray, List.set_cons_zero, List.set_cons_succ])
          refine wpAnyH_take (i := 4) (v := ?_) rfl (by kernel_rfl) (by kernel_rfl) (by kernel_rfl) (fun _ _ _ h => h) (Or.inl ⟨by rfl, ?_⟩) (by assumption) ?_; rotate_left; (intro w hSw; (try dsimp only at hSw); go_simp; (first | done | (with_reducible rfl))); (try simp only [List.getElem_toArray, List.getElem_cons_succ, List.getElem_cons_zero, Act.put, List.setIfInBounds_toArray, List.set_cons_zero, List.set_cons_succ])
          refine wpAnyH_take (i := 9) (v := ?_) rfl (by kernel_rfl) (by kernel_rfl) (by kernel_rfl) (fun _ _ _ h => h) (Or.inl ⟨by rfl, ?_⟩) (by assumption) ?_; rotate_left; (intro w hSw; (try dsimp only at hSw); go_simp; (first | done | (with_reducible rfl))); (try simp only [List.getElem_toArray, List.getElem_cons_succ, List.getElem_cons_zero, Act.put, List.setIfInBounds_toArray, List.set_cons_zero, List.set_cons_succ])
          refine wpAnyH_take (i := 10) (v := ?_) rfl (by kernel_rfl) (by kernel_rfl) (by kernel_rfl) (fun _ _ _ h => h) (Or.inl ⟨by rfl, ?_⟩) (by assumption) ?_; rotate_left; (intro w hSw; (try dsimp only at hSw); go_simp; (first | done | (with_reducible rfl))); (try simp only [List.getElem_toArray, List.getElem_cons_succ, List.getElem_cons_zero, Act.put, List.setIfInBounds_toArray, List.set_cons_zero, List.set_cons_succ])
          refine wpAnyH_ready (rs := [5]) (by kernel_rfl) (by simp) ?_; refine AllReadyH.cons rfl (fun KK hKK => ?_) AllReadyH.nil
          go_simp
          go_wp2_with fail
          refine hKK.out _ _ trivial (fun _ => ?_)
          clear hKK KK
          (try simp only [List.getElem_toArray, List.getElem_cons_succ, List.getElem_cons_zero, Act.put, List.setIfInBounds_toArray, List.set_cons_zero, List.set_cons_succ])
          refine wpAnyH_ready (rs := [11]) (by kernel_rfl) (by simp) ?_; refine AllReadyH.cons rfl (fun KK hKK => ?_) AllReadyH.nil
          refine step_app_bytes rfl (.tmp 57) (.tmp 62) rfl w6.heap.size (v := .slice Av (8 * u) cv) rfl hvoD rfl hchl hchA (by intro h; cases h) (by omega) hBD.size ?_
          intro A9 c9 w9 ho9 hb9 hg9 hc9
          refine hKK.out _ _ trivial (fun _ => ?_)
          clear hKK KK
          (try simp only [List.getElem_toArray, List.getElem_cons_succ, List.getElem_cons_zero, Act.put, List.setIfInBounds_toArray, List.set_cons_zero, List.set_cons_succ])
          refine wpAnyH_take (i := 12) (v := ?_) rfl (by kernel_rfl) (by kernel_rfl) (by kernel_rfl) (fun _ _ _ h => h) (Or.inl ⟨by rfl, ?_⟩) (by assumption) ?_; rotate_left; (intro w hSw; (try dsimp only at hSw); go_simp; (first | done | (with_reducible rfl))); (try simp only [List.getElem_toArray, List.getElem_cons_succ, List.getElem_cons_zero, Act.put, List.setIfInBounds_toArray, List.set_cons_zero, List.set_cons_succ])
          have hown9 := own_grown hOD.own hg9.1 (own_ne hvoD hOD.own (by decide))
          have hco9 := hown9.cellAt k (by simp; omega)
          rw [HUK.out] at hco9
          have hfo9 := hown9.frozenAt k
          refine wpAnyH_ready (rs := [13]) (by kernel_rfl) (by simp) ?_; refine AllReadyH.cons rfl (fun KK hKK => ?_) AllReadyH.nil
          go_simp
          go_wp2_with fail
          refine hKK.out _ _ trivial (fun _ => ?_)
          clear hKK KK
          (try simp only [List.getElem_toArray, List.getElem_cons_succ, List.getElem_cons_zero, Act.put, List.setIfInBounds_toArray, List.set_cons_zero, List.set_cons_succ])
          refine wpAnyH_done (by kernel_rfl) ?_ _
          go_wp2_with fail
          have hR := OwnT.repl (l' := rk ++ ch) hOD HUK.out HLK.out hg9.1 (by rw [List.length_append, HRK.out, hchl]; exact ho9) (by rw [List.length_append, HRK.out, hchl]; omega) hg9.2
          rw [HQ.out] at hR
          exact ⟨⟨k + 1, _, by omega, by go_num, hR, (hBD.trans hb9).setCell (Nat.le_refl _) _⟩, by simp [intOf]; omega⟩
        · obtain rfl : K = k := by omega
          rw [col8_full] at hOk
          go_wp2_with fail
          exact ⟨⟨u + 1, us, by omega, by go_num, hOk, hBk⟩, by simp [intOf]; omega⟩
    · obtain rfl : q = u := by omega
      have k18 := (hb.cell (p := ⟨w.heap.size, 1, none⟩) hlt6).trans k16
      have HEN := Lib.hid (rencode_calls (w := w8) (M := M) (cS := K) (show MatAt w8 (some ⟨w6.heap.size, 0, none⟩) K (8 * q) (cutD lb K) from ⟨vs, hO.at, hO.texts⟩) hK hKM (by omega) (by omega))
      clear hO hb
      go_wp2_with fail
      refine HEN.out.mono ?_
      rintro e w9 ⟨A9, c9, v9, rfl, h1, h2, h3⟩
      go_wp2_with fail
      go_ret2
      exact ⟨A9, c9, v9, by simp, h1, h2, hBw8.trans (h3.mono hBw8.size)⟩

end Go.Proofs.YtibidlgikecelaaDoor
