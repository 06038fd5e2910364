/- Contract: the law's made. -/
import Derived.Test.YtibidlgikecelaaDoorRA
namespace Go.Proofs.YtibidlgikecelaaDoor
open Go.RowKit
set_option linter.unusedVariables false
set_option linter.unusedSimpArgs false

/-- The first rows of a code's product are the data. -/
theorem gen_top {K c : Nat} (D : Mx) : EqM K c (mulM K (genM K) D) D := by
  intro i j hi hj
  unfold mulM
  rw [xs_single _ hi]
  · simp [genM, hi, one_gm]
  · intro k hk hne
    have : ¬ i = k := fun h => hne h.symm
    simp [genM, hi, this, zero_gm]
/-- Some of the first rows. -/
theorem OwnG.matTake {w : World} {B r c cap : Nat} {A : Option Addr} {blk : Nat → Nat} {M : Mx} (h : OwnG w B A cap blk r c M) (hm : c ≤ 1000) {k : Nat} (hk : k ≤ r) : MatAt w A k c M := by
  refine ⟨(headsV blk r c).take k, h.at.take k, by simp; omega, ?_⟩
  intro i v l h1 h2
  have hi : i < k := by
    rcases Nat.lt_or_ge i k with h | h
    · exact h
    · rw [List.getElem?_eq_none (by simp; omega)] at h1; cases h1
  rw [List.getElem?_take, if_pos hi, headsV_get (by omega)] at h1
  rw [rowsL_get hi] at h2
  cases h1; cases h2
  exact (h.row i (by omega)).row (by simp) (by omega)

theorem headsAt_at (g r c i : Nat) (hi : i < r) : (headsAt g r c (i + 1))[i]? = some (.slice (some ⟨g + 1 + i, 0, none⟩) c c) := by simp [headsAt, hi]
theorem OwnG.keepLow {w w' : World} {B r c cap t : Nat} {A : Option Addr} {blk : Nat → Nat} {M : Mx} (h : OwnG w B A cap blk r c M) (hg : w.grownBy w' (some t)) (ht : t < B) : OwnG w' B A cap blk r c M := by
  refine ⟨h.own.kept hg ?_, fun i hi => (h.row i hi).grown hg ?_, h.inj, h.geB⟩
  · cases hv : (Value.slice A r cap).ownBlock with
    | none => exact .inl rfl
    | some b => right; have := (h.own.lt b hv).1; simp; omega
  · have := h.geB i hi; simp; omega
/-- What made answers. -/
def RetMade (w : World) (K M n : Nat) (D : Mx) (e : Ending) (w' : World) : Prop :=
  ∃ A cap blk, e = .returned (.tuple #[.agg #[.int .i64 (K : Int), .int .i64 (M : Int)], .slice A (K + M) cap]) ∧ OwnG w' w.heap.size A cap blk (K + M) n (mulM K (genM K) D) ∧ Below w.heap.size w w'

set_option maxHeartbeats 1000000 in
set_option maxRecDepth 100000 in
theorem made_calls {w : World} {A : Option Addr} {na ca K M n : Nat} {lb : List B8} {x y z : Int} (hA : At w A (bys lb)) (hna : na = lb.length) (hma : lb.length ≤ 140737488351232)
    (HK : Hid (wrap64 (1 + wrap64 ((IntKind.u64.wrap x).tmod 12)) = (K : Int))) (HM : Hid (wrap64 ((IntKind.u64.wrap y).tmod 6) = (M : Int))) (HN : Hid (wrap64 (1 + wrap64 ((IntKind.u64.wrap z).tmod 10)) = (n : Int)))
    (hK : 1 ≤ K) (hK2 : K ≤ 12) (hM : M < 6) (hn : 1 ≤ n) (hn2 : n ≤ 10) (hF : FoldAt w) :
    Calls Tryd.prog 29 #[.int .i64 x, .int .i64 y, .int .i64 z, .slice A na ca] w (RetMade w K M n (sqM lb n)) := by
  subst hna
  go_enter Tryd.func29, Tryd.ntmps29
  go_wp2_with (refine make_top rfl (.tmp 32) (.tmp 32) rfl K rfl rfl (by rw [HK.out]) (by rw [HK.out]) (by omega) ?_; intro w3 ht3 hb3 hs3)
  have eK := HK.out
  have eM := HM.out
  have eN := HN.out
  rw [eK, eM] at ht3 hb3 hs3
  rw [eK, eM, eN]
  clear eK eM eN HK HM HN
  have hb2 := below2 w (.cells #[.int .i64 0, .int .i64 0] 38) (.cells #[.int .i64 (K : Int), .int .i64 (M : Int)] 38)
  have hcode : ((w.alloc (.cells #[.int .i64 0, .int .i64 0] 38)).alloc (.cells #[.int .i64 (K : Int), .int .i64 (M : Int)] 38)).heap[w.heap.size + 1]? = some (.cells #[.int .i64 (K : Int), .int .i64 (M : Int)] 38 (0, 0)) := by
    have h := heap_alloc_new (w.alloc (.cells #[.int .i64 0, .int .i64 0] 38)) (.cells #[.int .i64 (K : Int), .int .i64 (M : Int)] 38)
    simpa using h
  have hres : ((w.alloc (.cells #[.int .i64 0, .int .i64 0] 38)).alloc (.cells #[.int .i64 (K : Int), .int .i64 (M : Int)] 38)).heap[w.heap.size]? = some (.cells #[.int .i64 0, .int .i64 0] 38 (0, 0)) := by
    rw [Below.heap_alloc _ _ _ (by simp)]
    exact heap_alloc_new _ _
  have hs2 : ((w.alloc (.cells #[.int .i64 0, .int .i64 0] 38)).alloc (.cells #[.int .i64 (K : Int), .int .i64 (M : Int)] 38)).heap.size = w.heap.size + 1 + 1 := by simp
  generalize (w.alloc (.cells #[.int .i64 0, .int .i64 0] 38)).alloc (.cells #[.int .i64 (K : Int), .int .i64 (M : Int)] 38) = w2 at *
  rw [hs2] at ht3 hb3 hs3
  have HT := Lib.hid ht3
  have HC := Lib.hid hcode
  have HS := Lib.hid hres
  have HS3 := Lib.hid hs3
  clear ht3 hcode hres hs3
  go_loopw [36] (fun s wr => ∃ i : Nat, i ≤ K ∧ s = .int .i64 ((i : Nat) : Int) ∧ Hid (wr.heap[w.heap.size + 1 + 1]? = some (.cells (headsAt (w.heap.size + 1 + 1) K n i).toArray 22 (0, 0))) ∧
    Hid (∀ k, k < i → RowB wr (w.heap.size + 1 + 1 + 1 + k) (rowL n (sqM lb n k))) ∧ Hid (wr.heap.size = w.heap.size + 1 + 1 + 1 + i) ∧ Below (w.heap.size + 1 + 1) w2 wr) (fun s _ => K - (intOf s).toNat)
  case atStart => exact ⟨0, by omega, rfl, by rw [headsAt_zero]; exact HT.out, fun k hk => absurd hk (Nat.not_lt_zero _), HS3.out, hb3⟩
  case round =>
    obtain ⟨i, hi, rfl, HTr, HRr, HSr, hBr⟩ := hrel
    rename World => w4
    by_cases hiK : i < K
    · have hii : (i : Int) < (K : Int) := by omega
      have hmul : (i : Int) * (n : Int) = ((i * n : Nat) : Int) := by simp
      have hmul2 : i * n ≤ 120 := by
        have := Nat.mul_le_mul (by omega : i ≤ 12) hn2
        omega
      generalize hin2 : i * n = p at *
      have HP := Lib.hid hin2
      clear hin2 HT
      go_wp2_with (refine make_row rfl (.tmp 41) (.tmp 41) rfl n rfl rfl rfl rfl (by omega) ?_; intro w5 hr5 hb5 hs5; have ht5 := (hb5.block (w.heap.size + 1 + 1) (by rw [HSr.out]; omega)).trans HTr.out; have hc5 := cell_of_row w5 (w.heap.size + 1 + 1) i _ _ (0, 0) ht5; rw [List.getElem?_toArray, headsAt_get _ _ _ _ hiK] at hc5; have hf5 := frozen_of_row w5 (w.heap.size + 1 + 1) i _ _ ht5; replace ht5 := Lib.hid ht5; have HR5 := Lib.hid hr5; have HS5 := Lib.hid hs5; clear hr5 hs5)
      rw [HSr.out] at hb5 HR5 HS5
      rw [HSr.out]
      have hset := heap_setCell_same w5 (w.heap.size + 1 + 1) i _ _ (.slice (some ⟨w.heap.size + 1 + 1 + 1 + i, 0, none⟩) n n) ht5.out
      rw [List.setIfInBounds_toArray, headsAt_set] at hset
      have hgs := grown_set w5 (w.heap.size + 1 + 1) i (.slice (some ⟨w.heap.size + 1 + 1 + 1 + i, 0, none⟩) n n)
      have hR6 := HR5.out.grown hgs (by simp; omega)
      have hold : ∀ k, k < i → RowB (w5.setCell ⟨w.heap.size + 1 + 1, i, none⟩ (.slice (some ⟨w.heap.size + 1 + 1 + 1 + i, 0, none⟩) n n)) (w.heap.size + 1 + 1 + 1 + k) (rowL n (sqM lb n k)) := fun k hk => ((HRr.out k hk).below hb5 (by omega)).grown hgs (by simp; omega)
      have hB6 : Below (w.heap.size + 1 + 1) w2 (w5.setCell ⟨w.heap.size + 1 + 1, i, none⟩ (.slice (some ⟨w.heap.size + 1 + 1 + 1 + i, 0, none⟩) n n)) := (hBr.trans (hb5.mono (by omega))).setCell (Nat.le_refl _) _
      have hs6 : (w5.setCell ⟨w.heap.size + 1 + 1, i, none⟩ (.slice (some ⟨w.heap.size + 1 + 1 + 1 + i, 0, none⟩) n n)).heap.size = w.heap.size + 1 + 1 + 1 + i + 1 := by simp [World.setCell]; exact HS5.out
      generalize w5.setCell ⟨w.heap.size + 1 + 1, i, none⟩ (.slice (some ⟨w.heap.size + 1 + 1 + 1 + i, 0, none⟩) n n) = w6 at *
      have hc6 := cell_of_row w6 (w.heap.size + 1 + 1) i _ _ (0, 0) hset
      rw [List.getElem?_toArray, headsAt_at _ _ _ _ hiK] at hc6
      have HT6 := Lib.hid hset
      have HR6 := Lib.hid hR6
      have HO6 := Lib.hid hold
      have HS6 := Lib.hid hs6
      clear hset hgs hR6 hold hs6 hc5 hf5 hb5 ht5 HR5 HS5 HRr HTr HSr hBr
      clear w5
      go_loopw [49] (fun s wr => ∃ j : Nat, j ≤ n ∧ s = .int .i64 ((j : Nat) : Int) ∧ RowB wr (w.heap.size + 1 + 1 + 1 + i) (rowL n (rowAt j (sqM lb n i))) ∧ Below (w.heap.size + 1 + 1 + 1 + i) w6 wr ∧ Hid (wr.heap.size = w.heap.size + 1 + 1 + 1 + i + 1)) (fun s _ => n - (intOf s).toNat)
      case atStart => exact ⟨0, by omega, rfl, by rw [rowAt_zero]; exact HR6.out, Below.refl _ _, HS6.out⟩
      case round =>
        obtain ⟨j, hj, rfl, hR, hb, HSz⟩ := hrel
        have hcw := (hb.cell (p := ⟨w.heap.size + 1 + 1, i, none⟩) (by simp; omega)).trans hc6
        by_cases hjn : j < n
        · have hjj : (j : Int) < (n : Int) := by omega
          by_cases hpl : p + j < lb.length
          · have hplb : decide (((p : Nat) : Int) + (j : Int) < (lb.length : Int)) = true := decide_eq_true (by omega)
            have hpli : ((p : Nat) : Int) + (j : Int) < (lb.length : Int) := by omega
            obtain ⟨bb, off, rfl, hc⟩ := hA.byte hpl
            have hbl := block_lt hc
            have hcb := ((hb2.cell (p := ⟨bb, off + (p + j), none⟩) hbl).trans hc)
            replace hcb := (hB6.cell (p := ⟨bb, off + (p + j), none⟩) (by simp; omega)).trans hcb
            replace hcb := (hb.cell (p := ⟨bb, off + (p + j), none⟩) (by simp; omega)).trans hcb
            have hx : lb[p + j] = sqM lb n i j := by unfold sqM; rw [HP.out, List.getD_eq_getElem?_getD, List.getElem?_eq_getElem hpl]; rfl
            rw [hx] at hcb
            have hcs := hR.cell (rowL_get (f := rowAt j (sqM lb n i)) hjn)
            have hfs := hR.frozen j
            have HST := Lib.hid (rowAt_step j (sqM lb n i))
            generalize hy : sqM lb n i j = u at *
            clear hx hc hy
            go_wp2_with fail
            have hcwD : wr.drew.cell? ⟨w.heap.size + 1 + 1, i, none⟩ = some (.slice (some ⟨w.heap.size + 1 + 1 + 1 + i, 0, none⟩) n n) := hcw
            have hcbD : wr.drew.cell? ⟨bb, off + (p + j), none⟩ = some (.int .u8 (u.toNat : Int)) := hcb
            have hcsD : wr.drew.cell? ⟨w.heap.size + 1 + 1 + 1 + i, j, none⟩ = some (.int .u8 ((rowAt j (sqM lb n i) j).toNat : Int)) := hcs
            have hfsD : wr.drew.frozen? ⟨w.heap.size + 1 + 1 + 1 + i, j, none⟩ = false := hfs
            have hRD : RowB wr.drew (w.heap.size + 1 + 1 + 1 + i) (rowL n (rowAt j (sqM lb n i))) := hR
            have hbD : Below (w.heap.size + 1 + 1 + 1 + i) w6 wr.drew := hb.drew
            have HSD : Hid (wr.drew.heap.size = w.heap.size + 1 + 1 + 1 + i + 1) := HSz.out
            refine wp_region_held_drew (S := fun w' => w'.cell? ⟨w.heap.size + 1 + 1, i, none⟩ = some (.slice (some ⟨w.heap.size + 1 + 1 + 1 + i, 0, none⟩) n n) ∧ w'.cell? ⟨bb, off + (p + j), none⟩ = some (.int .u8 (u.toNat : Int))) (by kernel_rfl) ⟨hcwD, hcbD⟩ (fun hHeld => ?_)
            generalize wr.drew = WD at *
            clear hcw hcb hcs hfs hR hb HSz
            have hnp : (0 : Int) ≤ ((p : Nat) : Int) + (j : Int) := by omega
            have htp : (((p : Nat) : Int) + (j : Int)).toNat = p + j := by omega
            have hwp : IntKind.i64.wrap ((p : Nat) : Int) = ((p : Nat) : Int) := IntWalk.i64_in _ (by omega)
            have hwj : IntKind.i64.wrap (((p : Nat) : Int) + (j : Int)) = ((p : Nat) : Int) + (j : Int) := IntWalk.i64_in _ (by omega)
            refine wpAnyH_take (i := 0) (v := ?_) rfl (by kernel_rfl) (by kernel_rfl) (by kernel_rfl) (fun _ _ _ h => h) (Or.inl ⟨by rfl, ?_⟩) (by assumption) ?_; rotate_left; (intro w hSw; (try dsimp only at hSw); go_simp; (first | done | (with_reducible rfl))); (try simp only [List.getElem_toArray, List.getElem_cons_succ, List.getElem_cons_zero, Act.put, List.setIfInBounds_toArray, List.set_cons_zero, List.set_cons_succ])
            refine wpAnyH_take (i := 1) (v := ?_) rfl (by kernel_rfl) (by kernel_rfl) (by kernel_rfl) (fun _ _ _ h => h) (Or.inl ⟨by rfl, ?_⟩) (by assumption) ?_; rotate_left; (intro w hSw; (try dsimp only at hSw); go_simp; (first | done | (with_reducible rfl))); (try simp only [List.getElem_toArray, List.getElem_cons_succ, List.getElem_cons_zero, Act.put, List.setIfInBounds_toArray, List.set_cons_zero, List.set_cons_succ])
            refine wpAnyH_take (i := 4) (v := ?_) rfl (by kernel_rfl) (by kernel_rfl) (by kernel_rfl) (fun _ _ _ h => h) (Or.inl ⟨by rfl, ?_⟩) (by assumption) ?_; rotate_left; (intro w hSw; (try dsimp only at hSw); go_simp; (first | done | (with_reducible rfl))); (try simp only [List.getElem_toArray, List.getElem_cons_succ, List.getElem_cons_zero, Act.put, List.setIfInBounds_toArray, List.set_cons_zero, List.set_cons_succ])
            refine wpAnyH_take (i := 5) (v := ?_) rfl (by kernel_rfl) (by kernel_rfl) (by kernel_rfl) (fun _ _ _ h => h) (Or.inl ⟨by rfl, ?_⟩) (by assumption) ?_; rotate_left; (intro w hSw; (try dsimp only at hSw); go_simp; (first | done | (with_reducible rfl))); (try simp only [List.getElem_toArray, List.getElem_cons_succ, List.getElem_cons_zero, Act.put, List.setIfInBounds_toArray, List.set_cons_zero, List.set_cons_succ])
            refine wpAnyH_take (i := 6) (v := ?_) rfl (by kernel_rfl) (by kernel_rfl) (by kernel_rfl) (fun _ _ _ h => h) (Or.inl ⟨by rfl, ?_⟩) (by assumption) ?_; rotate_left; (intro w hSw; (try dsimp only at hSw); go_simp; (first | done | (with_reducible rfl))); (try simp only [List.getElem_toArray, List.getElem_cons_succ, List.getElem_cons_zero, Act.put, List.setIfInBounds_toArray, List.set_cons_zero, List.set_cons_succ])
            refine wpAnyH_take (i := 7) (v := ?_) rfl (by kernel_rfl) (by kernel_rfl) (by kernel_rfl) (fun _ _ _ h => h) (Or.inl ⟨by rfl, ?_⟩) (by assumption) ?_; rotate_left; (intro w hSw; (try dsimp only at hSw); go_simp; (first | done | (with_reducible rfl))); (try simp only [List.getElem_toArray, List.getElem_cons_succ, List.getElem_cons_zero, Act.put, List.setIfInBounds_toArray, List.set_cons_zero, List.set_cons_succ])
            refine wpAnyH_take (i := 9) (v := ?_) rfl (by kernel_rfl) (by kernel_rfl) (by kernel_rfl) (fun _ _ _ h => h) (Or.inl ⟨by rfl, ?_⟩) (by assumption) ?_; rotate_left; (intro w hSw; (try dsimp only at hSw); go_simp; (first | done | (with_reducible rfl))); (try simp only [List.getElem_toArray, List.getElem_cons_succ, List.getElem_cons_zero, Act.put, List.setIfInBounds_toArray, List.set_cons_zero, List.set_cons_succ])
            refine wpAnyH_take (i := 2) (v := ?_) rfl (by kernel_rfl) (by kernel_rfl) (by kernel_rfl) (fun _ _ _ h => h) (Or.inl ⟨by rfl, ?_⟩) (by assumption) ?_; rotate_left; (intro w hSw; (try dsimp only at hSw); go_simp; (first | done | (with_reducible rfl))); (try simp only [List.getElem_toArray, List.getElem_cons_succ, List.getElem_cons_zero, Act.put, List.setIfInBounds_toArray, List.set_cons_zero, List.set_cons_succ])
            refine wpAnyH_take (i := 3) (v := ?_) rfl (by kernel_rfl) (by kernel_rfl) (by kernel_rfl) (fun _ _ _ h => h) (Or.inl ⟨by rfl, ?_⟩) (by assumption) ?_; rotate_left; (intro w hSw; (try dsimp only at hSw); go_simp; (first | done | (with_reducible rfl))); (try simp only [List.getElem_toArray, List.getElem_cons_succ, List.getElem_cons_zero, Act.put, List.setIfInBounds_toArray, List.set_cons_zero, List.set_cons_succ])
            refine wpAnyH_take (i := 8) (v := ?_) rfl (by kernel_rfl) (by kernel_rfl) (by kernel_rfl) (fun _ _ _ h => h) (Or.inl ⟨by rfl, ?_⟩) (by assumption) ?_; rotate_left; (intro w hSw; (try dsimp only at hSw); go_simp; (first | done | (with_reducible rfl))); (try simp only [List.getElem_toArray, List.getElem_cons_succ, List.getElem_cons_zero, Act.put, List.setIfInBounds_toArray, List.set_cons_zero, List.set_cons_succ])
            refine wpAnyH_take (i := 10) (v := ?_) rfl (by kernel_rfl) (by kernel_rfl) (by kernel_rfl) (fun _ _ _ h => h) (Or.inl ⟨by rfl, ?_⟩) (by assumption) ?_; rotate_left; (intro w hSw; (try dsimp only at hSw); go_simp; (first | done | (with_reducible rfl))); (try simp only [List.getElem_toArray, List.getElem_cons_succ, List.getElem_cons_zero, Act.put, List.setIfInBounds_toArray, List.set_cons_zero, List.set_cons_succ])
            refine wpAnyH_take (i := 11) (v := ?_) rfl (by kernel_rfl) (by kernel_rfl) (by kernel_rfl) (fun _ _ _ h => h) (Or.inl ⟨by rfl, ?_⟩) (by assumption) ?_; rotate_left; (intro w hSw; (try dsimp only at hSw); go_simp; (first | done | (with_reducible rfl))); (try simp only [List.getElem_toArray, List.getElem_cons_succ, List.getElem_cons_zero, Act.put, List.setIfInBounds_toArray, List.set_cons_zero, List.set_cons_succ])
            refine wpAnyH_take (i := 12) (v := ?_) rfl (by kernel_rfl) (by kernel_rfl) (by kernel_rfl) (fun _ _ _ h => h) (Or.inl ⟨by rfl, ?_⟩) (by assumption) ?_; rotate_left; (intro w hSw; (try dsimp only at hSw); go_simp; (first | done | (with_reducible rfl))); (try simp only [List.getElem_toArray, List.getElem_cons_succ, List.getElem_cons_zero, Act.put, List.setIfInBounds_toArray, List.set_cons_zero, List.set_cons_succ])
            refine wpAnyH_take (i := 13) (v := ?_) rfl (by kernel_rfl) (by kernel_rfl) (by kernel_rfl) (fun _ _ _ h => h) (Or.inl ⟨by rfl, ?_⟩) (by assumption) ?_; rotate_left; (intro w hSw; (try dsimp only at hSw); go_simp; (first | done | (with_reducible rfl))); (try simp only [List.getElem_toArray, List.getElem_cons_succ, List.getElem_cons_zero, Act.put, List.setIfInBounds_toArray, List.set_cons_zero, List.set_cons_succ])
            clear hnp htp hwp hwj
            refine wpAnyH_ready (rs := [14]) (by kernel_rfl) (by simp) ?_; refine AllReadyH.cons rfl (fun K hK => ?_) AllReadyH.nil
            go_simp
            go_wp2_with fail
            have hgs := grown_set WD (w.heap.size + 1 + 1 + 1 + i) j (bv u)
            refine hK.out _ _ ⟨hgs.cell hcwD (by simp; omega), hgs.cell hcbD (by simp; omega)⟩ (fun hHeld => ?_)
            clear hK K
            (try simp only [List.getElem_toArray, List.getElem_cons_succ, List.getElem_cons_zero, Act.put, List.setIfInBounds_toArray, List.set_cons_zero, List.set_cons_succ])
            refine wpAnyH_done (by kernel_rfl) ?_ _
            go_wp2_with fail
            have hst := hRD.put j u
            rw [HST.out] at hst
            exact ⟨⟨j + 1, by omega, by go_num, hst, hbD.setCell (Nat.le_refl _) _, by show (WD.setCell _ _).heap.size = _; simp [World.setCell]; exact HSD.out⟩, by simp [intOf]; omega⟩
          · have hplb : decide (((p : Nat) : Int) + (j : Int) < (lb.length : Int)) = false := decide_eq_false (by omega)
            have HST := Lib.hid (rowAt_same j (sqM lb n i) (by unfold sqM; rw [HP.out, List.getD_eq_getElem?_getD, List.getElem?_eq_none (by omega)]; rfl))
            go_wp2_with fail
            exact ⟨⟨j + 1, by omega, by go_num, by rw [← HST.out]; exact hR, hb, HSz⟩, by simp [intOf]; omega⟩
        · obtain rfl : n = j := by omega
          rw [rowAt_end] at hR
          go_wp2_with fail
          refine ⟨⟨i + 1, by omega, by go_num, (hb.block _ (by omega)).trans HT6.out, fun k hk => ?_, HSz.out, hB6.trans (hb.mono (by omega))⟩, by simp [intOf]; omega⟩
          by_cases hki : k < i
          · exact (HO6.out k hki).below hb (by omega)
          · obtain rfl : k = i := by omega
            exact hR
    · obtain rfl : K = i := by omega
      have hGd : Grid w4 (w.heap.size + 1 + 1) (w.heap.size + 1 + 1) (fun k => w.heap.size + 1 + 1 + 1 + k) K n (sqM lb n) :=
        ⟨by have h := HTr.out; rwa [headsAt_end] at h, HRr.out, by intro a b _ _ h; omega, Nat.le_refl _, by intro k _; omega⟩
      have hX := hGd.mat (by omega)
      have hB4 := hb2.trans (hBr.mono (by omega))
      have hcd := (hBr.block (w.heap.size + 1) (by omega)).trans HC.out
      have hrs := (hBr.block w.heap.size (by omega)).trans HS.out
      have hk0 := cell_of_row w4 (w.heap.size + 1) 0 _ _ (0, 0) hcd
      have hk1 := cell_of_row w4 (w.heap.size + 1) 1 _ _ (0, 0) hcd
      have hz4 : w.heap.size + 1 + 1 ≤ w4.heap.size := by rw [HSr.out]; omega
      simp at hk0 hk1
      have HCD := Lib.hid hcd
      have HRS := Lib.hid hrs
      clear hGd HTr HRr hcd hrs hb3 HT HS3 HC HS hBr hb2
      have HE := Lib.hid (encode_calls (M := M) (cS := K) hX hK (by omega) hn (by omega) (FoldAt.below hF hB4))
      have hnn : ((K : Int) + (M : Int) != (K : Int) + (M : Int)) = false := by simp
      go_wp2_with fail
      refine HE.out.mono ?_
      rintro e w5 ⟨A5, c5, b5, rfl, hG5, hb5⟩
      have hX5 := hX.below hb5
      have hB5 := hB4.trans (hb5.mono hB4.size)
      have HCD5 := Lib.hid ((hb5.block (w.heap.size + 1) (by omega)).trans HCD.out)
      have HRS5 := Lib.hid ((hb5.block w.heap.size (by omega)).trans HRS.out)
      have hk05 := (hb5.cell (p := ⟨w.heap.size + 1, 0, none⟩) (by simp; omega)).trans hk0
      have hk15 := (hb5.cell (p := ⟨w.heap.size + 1, 1, none⟩) (by simp; omega)).trans hk1
      have hle5 := hG5.le
      obtain ⟨g5, rfl, _, _, _, _⟩ := hG5.cell (i := 0) (by omega)
      have HSM := fun (cc : Nat) => Lib.hid (same_mat (a := cc) (b := K) (hG5.matTake (k := K) (by omega) (by omega)) hX5 (gen_top (sqM lb n)) (by omega))
      have hKc : (K : Int) ≤ (c5 : Int) := by omega
      clear hk0 hk1 HCD HRS HE
      have hw0 := cell_of_row w5 w.heap.size 0 _ _ (0, 0) HRS5.out
      have hw1 := cell_of_row w5 w.heap.size 1 _ _ (0, 0) HRS5.out
      have hf0 := frozen_of_row w5 w.heap.size 0 _ _ HRS5.out
      have hf1 := frozen_of_row w5 w.heap.size 1 _ _ HRS5.out
      simp at hw0 hw1
      go_wp2_with fail
      refine (HSM c5).out.mono ?_
      rintro e w' ⟨rfl, rfl⟩
      clear HSM hX5 hX
      go_wp2_with fail
      have h1 := heap_setCell_same w5 w.heap.size 0 _ _ (.int .i64 (K : Int)) HRS5.out
      have h2 := heap_setCell_same _ w.heap.size 1 _ _ (.int .i64 (M : Int)) h1
      have hO := (hG5.keepLow (grown_set w5 w.heap.size 0 (.int .i64 (K : Int))) (by omega)).keepLow (grown_set _ w.heap.size 1 (.int .i64 (M : Int))) (by omega)
      have hBf := (hB5.setCell (p := ⟨w.heap.size, 0, none⟩) (Nat.le_refl _) (.int .i64 (K : Int))).setCell (p := ⟨w.heap.size, 1, none⟩) (Nat.le_refl _) (.int .i64 (M : Int))
      refine bodyPost_ret (results_row2 rfl _ _ w.heap.size 38 _ (0, 0) _ rfl h2 Tryd.underlying38 rfl (by kernel_rfl)) rfl ?_
      exact ⟨_, c5, b5, rfl, hO.lower (by omega), hBf⟩

end Go.Proofs.YtibidlgikecelaaDoor
