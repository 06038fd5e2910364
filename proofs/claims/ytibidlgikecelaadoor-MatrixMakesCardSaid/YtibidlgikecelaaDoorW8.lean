/- Contracts: matrix.grid, matrix.gather. -/
import Derived.Test.YtibidlgikecelaaDoorW7
import Derived.Test.YtibidlgikecelaaDoorG5
import Derived.Deep.RegionHeld
namespace Go.Proofs.YtibidlgikecelaaDoor
open Go.RowKit
set_option linter.unusedVariables false
set_option linter.unusedSimpArgs false

/-- A row, half of it with another row's multiple added. -/
def addAt (i : Nat) (f h : Nat → B8) (x : B8) : Nat → B8 := fun j => if j < i then f j ^^^ gm (h j) x else f j
theorem addAt_zero (f h : Nat → B8) (x : B8) : addAt 0 f h x = f := by funext j; simp [addAt]
theorem addAt_step (i : Nat) (f h : Nat → B8) (x : B8) : (fun j => if j = i then f i ^^^ gm (h i) x else addAt i f h x j) = addAt (i + 1) f h x := by
  funext j
  unfold addAt
  by_cases hj : j = i
  · subst hj; simp
  · have h3 : (j < i + 1) = (j < i) := by simp; omega
    simp [hj, h3]
theorem addAt_at (i : Nat) (f h : Nat → B8) (x : B8) : addAt i f h x i = f i := by simp [addAt]
theorem addAt_end (c : Nat) (f h : Nat → B8) (x : B8) : rowL c (addAt c f h x) = rowL c (addR f h x) := rowL_congr fun j hj => by simp [addAt, addR, hj]
theorem addR_zero (f h : Nat → B8) : addR f h 0#8 = f := by funext j; simp [addR, gm_zero]
theorem bv_xor (a b : B8) : bv (a ^^^ b) = .int .u8 ((a.toNat ^^^ b.toNat : Nat) : Int) := by simp [bv]
theorem byte_eq0 {x : B8} (h : x ≠ 0#8) : ((x.toNat : Int) == 0) = false := by
  have : x.toNat ≠ 0 := fun h' => h (BitVec.eq_of_toNat_eq (by simpa using h'))
  simp; omega

/-- What gather leaves. -/
def RetG (w : World) (tb c : Nat) (f : Nat → B8) (e : Ending) (w' : World) : Prop := e = .returned (.tuple #[]) ∧ w.grownBy w' (some tb) ∧ RowB w' tb (rowL c f)

set_option maxHeartbeats 400000 in
set_option maxRecDepth 100000 in
theorem gather_calls {w : World} {tb c cf : Nat} {f h : Nat → B8} {F : Option Addr} {x : B8} (hT : RowB w tb (rowL c f)) (hFA : At w F (bys (rowL c h))) (hF : FoldAt w) (h0 : tb ≠ 0)
    (hne : ∀ b off, F = some ⟨b, off, none⟩ → b ≠ tb) (hc : c ≤ 1000000) :
    Calls Tryd.prog 61 #[.slice (some ⟨tb, 0, none⟩) c c, .slice F c cf, .int .u8 (x.toNat : Int)] w (RetG w tb c (addR f h x)) := by
  by_cases hx : x = 0#8
  · subst hx
    rw [addR_zero]
    go_enter Tryd.func61, Tryd.ntmps61
    go_wp2_with fail
    go_end0
    exact ⟨rfl, grown_refl _ _, hT⟩
  · have hx0 := byte_eq0 hx
    have HE := Lib.hid (addAt_end c f h x)
    go_enter Tryd.func61, Tryd.ntmps61
    go_wp2_with fail
    go_loopw [12] (fun s wr => ∃ i : Nat, i ≤ c ∧ s = .int .i64 ((i : Nat) : Int) ∧ w.grownBy wr (some tb) ∧ RowB wr tb (rowL c (addAt i f h x))) (fun s _ => c - (intOf s).toNat)
    case atStart => exact ⟨0, by omega, rfl, grown_refl _ _, by rw [addAt_zero]; exact hT⟩
    case round =>
      obtain ⟨i, hi, rfl, hg, hR⟩ := hrel
      by_cases hic : i < c
      · have hii : (i : Int) < (c : Int) := by omega
        have hcT := hR.cell (rowL_get (f := addAt i f h x) hic)
        rw [addAt_at] at hcT
        have hfz := hR.frozen i
        obtain ⟨b, off, rfl, hcF⟩ := (hFA.grown' hg (fun b off he hb => hne b off he (Option.some.inj hb))).byte (k := i) (by simpa using hic)
        rw [show (rowL c h)[i]'(by simpa using hic) = h i from by simp [rowL]] at hcF
        have hFw := hF.grown hg (by simpa using h0)
        have hbr := belowN (w := wr) (B := wr.heap.size) 1
        have hS := Lib.hid (addAt_step i f h x)
        have hRR := Lib.hid (rowL_set c (addAt i f h x) i (f i ^^^ gm (h i) x))
        rw [hS.out] at hRR
        generalize hf1 : addAt (i + 1) f h x = f1 at *
        have HF1 := Lib.hid hf1
        clear hf1
        generalize addAt i f h x = f2 at *
        generalize f i = y at *
        generalize h i = z at *
        go_wp2_with fail
        have hcTD : wr.drew.cell? ⟨tb, i, none⟩ = some (.int .u8 (y.toNat : Int)) := hcT
        have hcFD : wr.drew.cell? ⟨b, off + i, none⟩ = some (.int .u8 (z.toNat : Int)) := hcF
        have hFD : FoldAt wr.drew := hFw
        have hRD : RowB wr.drew tb (rowL c f2) := hR
        have hgD : w.grownBy wr.drew (some tb) := grown_trans hg (grown_of_below (belowN 1) _)
        refine wp_region_held_drew (S := fun _ => True) (by kernel_rfl) trivial (fun _ => ?_)
        generalize wr.drew = WD at *
        clear hcT hcF hR hg hfz hFw
        refine wpAnyH_take (i := 0) (v := ?_) rfl (by kernel_rfl) (by kernel_rfl) (by kernel_rfl) (fun _ _ _ h => h) (Or.inl ⟨by rfl, ?_⟩) (by assumption) ?_; rotate_left; (intro w hSw; (try dsimp only at hSw); go_simp; (first | done | (with_reducible rfl))); (try simp only [List.getElem_toArray, List.getElem_cons_succ, List.getElem_cons_zero, Act.put, List.setIfInBounds_toArray, List.set_cons_zero, List.set_cons_succ])
        refine wpAnyH_take (i := 1) (v := ?_) rfl (by kernel_rfl) (by kernel_rfl) (by kernel_rfl) (fun _ _ _ h => h) (Or.inl ⟨by rfl, ?_⟩) (by assumption) ?_; rotate_left; (intro w hSw; (try dsimp only at hSw); go_simp; (first | done | (with_reducible rfl))); (try simp only [List.getElem_toArray, List.getElem_cons_succ, List.getElem_cons_zero, Act.put, List.setIfInBounds_toArray, List.set_cons_zero, List.set_cons_succ])
        refine wpAnyH_take (i := 2) (v := ?_) rfl (by kernel_rfl) (by kernel_rfl) (by kernel_rfl) (fun _ _ _ h => h) (Or.inl ⟨by rfl, ?_⟩) (by assumption) ?_; rotate_left; (intro w hSw; (try dsimp only at hSw); go_simp; (first | done | (with_reducible rfl))); (try simp only [List.getElem_toArray, List.getElem_cons_succ, List.getElem_cons_zero, Act.put, List.setIfInBounds_toArray, List.set_cons_zero, List.set_cons_succ])
        refine wpAnyH_take (i := 3) (v := ?_) rfl (by kernel_rfl) (by kernel_rfl) (by kernel_rfl) (fun _ _ _ h => h) (Or.inl ⟨by rfl, ?_⟩) (by assumption) ?_; rotate_left; (intro w hSw; (try dsimp only at hSw); go_simp; (first | done | (with_reducible rfl))); (try simp only [List.getElem_toArray, List.getElem_cons_succ, List.getElem_cons_zero, Act.put, List.setIfInBounds_toArray, List.set_cons_zero, List.set_cons_succ])
        refine wpAnyH_take (i := 6) (v := ?_) rfl (by kernel_rfl) (by kernel_rfl) (by kernel_rfl) (fun _ _ _ h => h) (Or.inl ⟨by rfl, ?_⟩) (by assumption) ?_; rotate_left; (intro w hSw; (try dsimp only at hSw); go_simp; (first | done | (with_reducible rfl))); (try simp only [List.getElem_toArray, List.getElem_cons_succ, List.getElem_cons_zero, Act.put, List.setIfInBounds_toArray, List.set_cons_zero, List.set_cons_succ])
        refine wpAnyH_take (i := 7) (v := ?_) rfl (by kernel_rfl) (by kernel_rfl) (by kernel_rfl) (fun _ _ _ h => h) (Or.inl ⟨by rfl, ?_⟩) (by assumption) ?_; rotate_left; (intro w hSw; (try dsimp only at hSw); go_simp; (first | done | (with_reducible rfl))); (try simp only [List.getElem_toArray, List.getElem_cons_succ, List.getElem_cons_zero, Act.put, List.setIfInBounds_toArray, List.set_cons_zero, List.set_cons_succ])
        refine wpAnyH_take (i := 4) (v := ?_) rfl (by kernel_rfl) (by kernel_rfl) (by kernel_rfl) (fun _ _ _ h => h) (Or.inl ⟨by rfl, ?_⟩) (by assumption) ?_; rotate_left; (intro w hSw; (try dsimp only at hSw); go_simp; (first | done | (with_reducible rfl))); (try simp only [List.getElem_toArray, List.getElem_cons_succ, List.getElem_cons_zero, Act.put, List.setIfInBounds_toArray, List.set_cons_zero, List.set_cons_succ])
        refine wpAnyH_ready (rs := [5, 8]) (by kernel_rfl) (by simp) ?_
        refine AllReadyH.cons rfl (fun K hK => ?_) (AllReadyH.cons rfl (fun K hK => ?_) AllReadyH.nil)
        · go_simp
          go_wp2_with fail
          refine hK.out _ _ trivial (fun _ => ?_); clear hK K; (try simp only [List.getElem_toArray, List.getElem_cons_succ, List.getElem_cons_zero, Act.put, List.setIfInBounds_toArray, List.set_cons_zero, List.set_cons_succ])
          refine wpAnyH_ready (rs := [8]) (by kernel_rfl) (by simp) ?_; refine AllReadyH.cons rfl (fun K hK => ?_) AllReadyH.nil
          go_simp
          refine (mul_calls z x hFD).mono ?_
          rintro e w1 ⟨rfl, hb1⟩
          go_wp2_with fail
          refine hK.out _ _ trivial (fun _ => ?_); clear hK K; (try simp only [List.getElem_toArray, List.getElem_cons_succ, List.getElem_cons_zero, Act.put, List.setIfInBounds_toArray, List.set_cons_zero, List.set_cons_succ])
          refine wpAnyH_ready (rs := [9]) (by kernel_rfl) (by simp) ?_; refine AllReadyH.cons rfl (fun K hK => ?_) AllReadyH.nil
          go_simp
          refine (add_calls _ _).mono ?_
          rintro e w2 ⟨rfl, rfl⟩
          go_wp2_with fail
          refine hK.out _ _ trivial (fun _ => ?_); clear hK K; (try simp only [List.getElem_toArray, List.getElem_cons_succ, List.getElem_cons_zero, Act.put, List.setIfInBounds_toArray, List.set_cons_zero, List.set_cons_succ])
          refine wpAnyH_take (i := 10) (v := ?_) rfl (by kernel_rfl) (by kernel_rfl) (by kernel_rfl) (fun _ _ _ h => h) (Or.inl ⟨by rfl, ?_⟩) (by assumption) ?_; rotate_left; (intro w hSw; (try dsimp only at hSw); go_simp; (first | done | (with_reducible rfl))); (try simp only [List.getElem_toArray, List.getElem_cons_succ, List.getElem_cons_zero, Act.put, List.setIfInBounds_toArray, List.set_cons_zero, List.set_cons_succ])
          have hR1 := hRD.below hb1 hRD.lt
          have hcs := hR1.cell (rowL_get (f := f2) hic)
          have hfs := hR1.frozen i
          refine wpAnyH_ready (rs := [11]) (by kernel_rfl) (by simp) ?_; refine AllReadyH.cons rfl (fun K hK => ?_) AllReadyH.nil
          go_simp
          go_wp2_with fail
          refine hK.out _ _ trivial (fun _ => ?_); clear hK K; (try simp only [List.getElem_toArray, List.getElem_cons_succ, List.getElem_cons_zero, Act.put, List.setIfInBounds_toArray, List.set_cons_zero, List.set_cons_succ])
          refine wpAnyH_done (by kernel_rfl) ?_ _
          go_wp2_with fail
          have hst := hR1.set i (y ^^^ gm z x)
          rw [hRR.out, bv_xor] at hst
          exact ⟨⟨i + 1, by omega, by go_num, grown_trans hgD (grown_trans (grown_of_below hb1 _) (grown_set _ _ _ _)), by rw [HF1.out]; exact hst⟩, by simp [intOf]; omega⟩
        · go_simp
          refine (mul_calls z x hFD).mono ?_
          rintro e w1 ⟨rfl, hb1⟩
          go_wp2_with fail
          refine hK.out _ _ trivial (fun _ => ?_); clear hK K; (try simp only [List.getElem_toArray, List.getElem_cons_succ, List.getElem_cons_zero, Act.put, List.setIfInBounds_toArray, List.set_cons_zero, List.set_cons_succ])
          have hc1 := (hb1.cell (p := ⟨tb, i, none⟩) hRD.lt).trans hcTD
          refine wpAnyH_ready (rs := [5]) (by kernel_rfl) (by simp) ?_; refine AllReadyH.cons rfl (fun K hK => ?_) AllReadyH.nil
          go_simp
          go_wp2_with fail
          refine hK.out _ _ trivial (fun _ => ?_); clear hK K; (try simp only [List.getElem_toArray, List.getElem_cons_succ, List.getElem_cons_zero, Act.put, List.setIfInBounds_toArray, List.set_cons_zero, List.set_cons_succ])
          refine wpAnyH_ready (rs := [9]) (by kernel_rfl) (by simp) ?_; refine AllReadyH.cons rfl (fun K hK => ?_) AllReadyH.nil
          go_simp
          refine (add_calls _ _).mono ?_
          rintro e w2 ⟨rfl, rfl⟩
          go_wp2_with fail
          refine hK.out _ _ trivial (fun _ => ?_); clear hK K; (try simp only [List.getElem_toArray, List.getElem_cons_succ, List.getElem_cons_zero, Act.put, List.setIfInBounds_toArray, List.set_cons_zero, List.set_cons_succ])
          refine wpAnyH_take (i := 10) (v := ?_) rfl (by kernel_rfl) (by kernel_rfl) (by kernel_rfl) (fun _ _ _ h => h) (Or.inl ⟨by rfl, ?_⟩) (by assumption) ?_; rotate_left; (intro w hSw; (try dsimp only at hSw); go_simp; (first | done | (with_reducible rfl))); (try simp only [List.getElem_toArray, List.getElem_cons_succ, List.getElem_cons_zero, Act.put, List.setIfInBounds_toArray, List.set_cons_zero, List.set_cons_succ])
          have hR1 := hRD.below hb1 hRD.lt
          have hcs := hR1.cell (rowL_get (f := f2) hic)
          have hfs := hR1.frozen i
          refine wpAnyH_ready (rs := [11]) (by kernel_rfl) (by simp) ?_; refine AllReadyH.cons rfl (fun K hK => ?_) AllReadyH.nil
          go_simp
          go_wp2_with fail
          refine hK.out _ _ trivial (fun _ => ?_); clear hK K; (try simp only [List.getElem_toArray, List.getElem_cons_succ, List.getElem_cons_zero, Act.put, List.setIfInBounds_toArray, List.set_cons_zero, List.set_cons_succ])
          refine wpAnyH_done (by kernel_rfl) ?_ _
          go_wp2_with fail
          have hst := hR1.set i (y ^^^ gm z x)
          rw [hRR.out, bv_xor] at hst
          exact ⟨⟨i + 1, by omega, by go_num, grown_trans hgD (grown_trans (grown_of_below hb1 _) (grown_set _ _ _ _)), by rw [HF1.out]; exact hst⟩, by simp [intOf]; omega⟩
      · obtain rfl : i = c := by omega
        rw [HE.out] at hR
        go_wp2_with fail
        go_end0
        exact ⟨rfl, hg, hR⟩

/-- The heads in the making. -/
def headsAt (g r c i : Nat) : List Value := (List.range r).map fun k => if k < i then .slice (some ⟨g + 1 + k, 0, none⟩) c c else .slice none 0 0
theorem headsAt_zero (g r c : Nat) : headsAt g r c 0 = List.replicate r (.slice none 0 0) := by
  apply List.ext_getElem?
  intro k
  by_cases hk : k < r <;> simp [headsAt, hk]
theorem headsAt_set (g r c i : Nat) : (headsAt g r c i).set i (.slice (some ⟨g + 1 + i, 0, none⟩) c c) = headsAt g r c (i + 1) := by
  apply List.ext_getElem?
  intro k
  rw [List.getElem?_set]
  by_cases hki : i = k
  · subst hki
    by_cases hk : i < r <;> simp [headsAt, hk]
  · have h3 : (k < i + 1) = (k < i) := by simp; omega
    by_cases hk : k < r <;> simp [headsAt, hk, hki, h3]
theorem headsAt_end (g r c : Nat) : headsAt g r c r = headsV (fun k => g + 1 + k) r c := by
  refine List.map_congr_left ?_
  intro k hk
  have : k < r := by simpa using hk
  simp [this]
theorem headsAt_get (g r c i : Nat) (hi : i < r) : (headsAt g r c i)[i]? = some (.slice none 0 0) := by simp [headsAt, hi]

/-- A call answers a grid of its own. -/
def RetGrid (w : World) (r c : Nat) (M : Mx) (e : Ending) (w' : World) : Prop :=
  ∃ g blk, e = .returned (.slice (some ⟨g, 0, none⟩) r r) ∧ Grid w' w.heap.size g blk r c M ∧ Below w.heap.size w w'

set_option maxHeartbeats 400000 in
set_option maxRecDepth 100000 in
theorem grid_calls {w : World} {r c : Nat} (hr : r ≤ 1000000) (hc : c ≤ 1000000) :
    Calls Tryd.prog 60 #[.int .i64 (r : Int), .int .i64 (c : Int)] w (RetGrid w r c zeroM) := by
  go_enter Tryd.func60, Tryd.ntmps60
  go_wp2_with (first
    | (refine make_top rfl (.tmp 7) (.tmp 7) rfl r rfl rfl rfl rfl (by omega) ?_; intro w1 ht1 hb1 hs1))
  have HT := Lib.hid ht1
  clear ht1
  go_loopw [11] (fun s wr => ∃ i : Nat, i ≤ r ∧ s = .int .i64 ((i : Nat) : Int) ∧ wr.heap[w.heap.size]? = some (.cells (headsAt w.heap.size r c i).toArray 22 (0, 0)) ∧
    (∀ k, k < i → RowB wr (w.heap.size + 1 + k) (rowL c fun _ => 0#8)) ∧ wr.heap.size = w.heap.size + 1 + i ∧ Below w.heap.size w wr) (fun s _ => r - (intOf s).toNat)
  case atStart => exact ⟨0, by omega, rfl, by rw [headsAt_zero]; exact HT.out, by intro k hk; omega, by omega, hb1⟩
  case round =>
    obtain ⟨i, hi, rfl, ht, hrow, hs, hb⟩ := hrel
    have HR := Lib.hid hrow
    have HT' := Lib.hid ht
    clear hrow
    by_cases hir : i < r
    · have hii : (i : Int) < (r : Int) := by omega
      go_wp2_with (first
        | (refine make_row rfl (.tmp 16) (.tmp 16) rfl c rfl rfl rfl rfl (by omega) ?_; intro w2 hr2 hb2 hs2; have ht2 := (hb2.block w.heap.size (by omega)).trans HT'.out; have hc2 := cell_of_row w2 w.heap.size i _ _ (0, 0) ht2; rw [List.getElem?_toArray, headsAt_get _ _ _ _ hir] at hc2; have hf2 := frozen_of_row w2 w.heap.size i _ _ ht2; replace ht2 := Lib.hid ht2; have HR2 := Lib.hid hr2; clear hr2))
      have hset := heap_setCell_same w2 w.heap.size i _ _ (.slice (some ⟨w.heap.size + 1 + i, 0, none⟩) c c) ht2.out
      rw [List.setIfInBounds_toArray, headsAt_set] at hset
      have hgs := grown_set w2 w.heap.size i (.slice (some ⟨w.heap.size + 1 + i, 0, none⟩) c c)
      refine ⟨⟨i + 1, by omega, by go_num, hset, fun k hk => ?_, by simp [World.setCell]; omega, (hb.trans (hb2.mono (by omega))).trans ?_⟩, by simp [intOf]; omega⟩
      · by_cases hki : k < i
        · exact ((HR.out k hki).below hb2 (by omega)).grown hgs (by simp; omega)
        · obtain rfl : k = i := by omega
          have := HR2.out
          rw [hs] at this
          exact this.grown hgs (by simp; omega)
      · exact below_of_grown hgs (by omega) (by intro k hk; cases hk; omega)
    · obtain rfl : i = r := by omega
      go_wp2_with fail
      go_ret
      rw [headsAt_end] at ht
      exact ⟨w.heap.size, _, rfl, ⟨ht, HR.out, by intro a b _ _ h; omega, Nat.le_refl _, by intro k _; omega⟩, hb⟩

end Go.Proofs.YtibidlgikecelaaDoor
