/- Contract: the law StripeBack. -/
import Derived.Test.YtibidlgikecelaaDoorS7
namespace Go.Proofs.YtibidlgikecelaaDoor
open Go.RowKit
set_option linter.unusedVariables false
set_option linter.unusedSimpArgs false

/-- What the shards of a blob tell is the blob. -/
theorem back_bytes {K s : Nat} {l : List B8} (hK : 1 ≤ K) (hs : s = l.length) : (rowL (lenS K s * K) (joinD K (mulM K (genM K) (cutD l K)))).take s = l := by
  have hr := lenS_room (s := s) hK
  have hq := lenS_mul K s
  apply List.ext_getElem?
  intro p
  rw [List.getElem?_take]
  by_cases hp : p < s
  · rw [if_pos hp, rowL_get (by omega), List.getElem?_eq_getElem (by omega)]
    obtain ⟨h1, h2, h3⟩ := place_cut (K := K) (q := lenS K s / 8) (p := p) hK (by rw [← hq]; omega)
    unfold joinD
    rw [gen_top (K := K) (c := 8 * (lenS K s / 8)) (cutD l K) _ _ h1 h2]
    unfold cutD
    rw [h3, List.getD_eq_getElem?_getD, List.getElem?_eq_getElem (by omega)]
    rfl
  · rw [if_neg hp, List.getElem?_eq_none (by omega)]

set_option maxHeartbeats 2000000 in
set_option maxRecDepth 100000 in
theorem stripeBack_calls {w : World} {A : Option Addr} {na ca : Nat} {lb : List B8} {x y p : Int} (hA : At w A (bys lb)) (hna : na = lb.length) (hma : lb.length ≤ 140737488351232) (hca : lb.length ≤ ca) (hF : FoldAt w) (hpw : (Lit.int .u64 p).wf = true) :
    Calls Tryd.prog 22 #[.int .i64 x, .int .i64 y, .slice A na ca, .int .u64 p] w (RetV w (.bool true)) := by
  obtain ⟨K, hK1, hK2, hKe⟩ := pick_add 1 x 12 (by decide) (by decide) (by decide)
  obtain ⟨M, hM2, hMe⟩ := pick_mod y 6 (by decide) (by decide)
  rw [Int.natCast_one] at hKe
  have HCO := fun (W : World) => Lib.hid (code_calls (w := W) (Lib.hid hKe) (Lib.hid hMe))
  clear hKe hMe
  have hK12 : K ≤ 12 := by omega
  have hM6 : M < 6 := by omega
  clear hK2 hM2
  subst hna
  have HC : ∃ l' : List B8, (lb.length ≤ 400 ∧ l' = lb ∨ 400 < lb.length ∧ l' = lb.take 400) := by
    rcases Nat.lt_or_ge 400 lb.length with h | h
    · exact ⟨_, .inr ⟨h, rfl⟩⟩
    · exact ⟨_, .inl ⟨h, rfl⟩⟩
  obtain ⟨l', hcase⟩ := HC
  go_enter Tryd.func22, Tryd.ntmps22
  go_wp2_with fail
  refine (HCO _).out.mono ?_
  rintro e w1 ⟨rfl, hb1⟩
  have hbw := below1' w1 (.cells #[.int .i64 (K : Int), .int .i64 (M : Int)] 38)
  have hk0 : (w1.alloc (.cells #[.int .i64 (K : Int), .int .i64 (M : Int)] 38)).cell? ⟨w1.heap.size, 0, none⟩ = some (.int .i64 (K : Int)) := cell_of_row _ _ 0 _ _ (0, 0) (heap_alloc_new w1 _)
  have hk1 : (w1.alloc (.cells #[.int .i64 (K : Int), .int .i64 (M : Int)] 38)).cell? ⟨w1.heap.size, 1, none⟩ = some (.int .i64 (M : Int)) := cell_of_row _ _ 1 _ _ (0, 0) (heap_alloc_new w1 _)
  have hBw := hb1.trans (hbw.mono hb1.size)
  rcases hcase with ⟨hlen, hl'⟩ | ⟨hlen, hl'⟩
  have hlb : (lb.length : Int) ≤ 400 := by omega
  go_wp2_with fail
  have hAl : At w A (bys l') := by rw [hl']; exact hA
  have hn' : lb.length = l'.length := by rw [hl']
  generalize lb.length = n' at *
  have hnc : n' ≤ ca := hca
  have hn4 : n' ≤ 400 := hlen
  clear hlb hlen hl' hca hma hA
  rotate_left
  have hlb : (400 : Int) < (lb.length : Int) := by omega
  have hsl : (400 : Nat) ≤ ca := by omega
  have hsl2 : (400 : Int) ≤ (ca : Int) := by omega
  go_wp2_with fail
  have hAl : At w A (bys l') := by rw [hl']; simpa [bys, List.map_take] using hA.take 400
  have hn' : 400 = l'.length := by rw [hl']; simp; omega
  clear hsl2 hlb hlen hl' hca hma hA
  have hn4 : (400 : Nat) ≤ 400 := Nat.le_refl _
  have hn4' : ∃ n' : Nat, n' = 400 := ⟨_, rfl⟩
  obtain ⟨n', hnn⟩ := hn4'
  rw [← hnn] at hn' hsl
  replace hn4 : n' ≤ 400 := by omega
  rw [← hnn]
  have hnc : n' ≤ ca := hsl
  clear hsl hnn
  all_goals
    have HCU := fun (W : World) (hW : Below w.heap.size w W) => Lib.hid (cut_calls (n := n') (c := ca) (hAl.below hW) hn' (by omega) (by omega) hK1 (by omega : K + M ≤ 255) (FoldAt.below hF hW))
    have HLE := fun (W : World) => Lib.hid (length_calls (w := W) (s := n') hK1 (by omega : K + M ≤ 255) hn4)
    generalize w1.alloc (.cells #[.int .i64 (K : Int), .int .i64 (M : Int)] 38) = w2 at *
    rw [← hn'] at HCU
    have hnn1 := lenS_le (s := n') hK1 hn4
    have hnn2 := lenS_pos K n'
    have hq8 : Hid (lenS K n' = 8 * (lenS K n' / 8)) := lenS_mul K n'
    generalize hnE : lenS K n' = nn at *
    replace hnE := Lib.hid hnE.symm
    refine (HCU _ hBw).out.mono ?_
    rintro e w3 ⟨A3, c3, blk, rfl, hG, hb3⟩
    obtain ⟨g, rfl, hgB, hc0, hbg, hf0⟩ := hG.cell (i := 0) (by omega)
    have hle := hG.le
    have HJ := fun (W : World) (LL : List (List B8)) (vs : List Value) (hS : Shards W (some ⟨g, 0, none⟩) vs LL (K + M) nn (mulM K (genM K) (cutD l' K))) (hp : K ≤ (presL LL (K + M)).length) (hW : Below w.heap.size w W) =>
      Lib.hid (join_calls (cS := c3) (M := M) (s := n') (by rw [← hnE.out]; exact hS) rfl hK1 (by omega) hn4 hp (FoldAt.below hF hW))
    have hBB := Lib.hid (back_bytes (K := K) hK1 hn')
    rw [← hnE.out] at hBB HJ
    rw [hBB.out] at HJ
    generalize mulM K (genM K) (cutD l' K) = Q at *
    have hB3 := hBw.trans (hb3.mono hBw.size)
    have hk03 := (hb3.cell (p := ⟨w1.heap.size, 0, none⟩) (block_lt hk0)).trans hk0
    have hk13 := (hb3.cell (p := ⟨w1.heap.size, 1, none⟩) (block_lt hk1)).trans hk1
    have hgcb : w1.heap.size ≠ g := by have := block_lt hk0; omega
    have hgw : w.heap.size ≤ g := Nat.le_trans hBw.size hgB
    have hnnI : ((nn : Int) != (nn : Int)) = false := by simp
    have hKMI : ((K : Int) + (M : Int) != (K : Int) + (M : Int)) = false := by simp
    have HN := Lib.hid hn'
    have hown0 := hG.own
    rw [holeV_full] at hown0
    have hrow0 := hG.row
    clear hf0 hbw hBw hk0 hk1 HCU HCO hn' hc0 hq8 HLE
    go_wp2_with fail
    go_loopw [12, 43] (fun s12 s wr => ∃ (i t : Nat) (kp : Nat → Bool), i ≤ K + M ∧ s = .int .i64 ((i : Nat) : Int) ∧ s12 = .int .i64 ((t : Nat) : Int) ∧ Hid (t = ((List.range i).filter kp).length) ∧ K ≤ t + (K + M - i) ∧ t ≤ i ∧ (∀ k, i ≤ k → kp k = true) ∧
      wr.ownsRow w2.heap.size 22 1 (.slice (some ⟨g, 0, none⟩) (K + M) c3) (K + M) (holeV blk nn (K + M) kp) ∧ (∀ k, k < K + M → RowB wr (blk k) (rowL nn (Q k))) ∧ Below w.heap.size w wr ∧
      wr.cell? ⟨w1.heap.size, 0, none⟩ = some (.int .i64 (K : Int)) ∧ wr.cell? ⟨w1.heap.size, 1, none⟩ = some (.int .i64 (M : Int))) (fun _ s _ => K + M - (intOf s).toNat)
    case atStart => exact ⟨0, 0, fun _ => true, by omega, rfl, rfl, (by simp : (0 : Nat) = ((List.range 0).filter _).length), by omega, by omega, fun _ _ => rfl, hown0, hrow0, hB3, hk03, hk13⟩
    case round =>
      obtain ⟨i, t, kp, hi, rfl, rfl, htc, htK, hti, hkp, hT, hRW, hBr, hkr0, hkr1⟩ := hrel
      clear hown0 hrow0 hG hB3 hk03 hk13
      by_cases hin : i < K + M
      · have hii : (i : Int) < (K : Int) + (M : Int) := by omega
        have hci := hT.cellAt i (by omega)
        rw [holeV_get hin] at hci
        have hfi := hT.frozenAt i
        have HKP := Lib.hid (show t + 1 = ((List.range (i + 1)).filter kp).length by rw [kept_keep (hkp i (Nat.le_refl _)), ← htc.out])
        have hkp3 : ∀ k, i + 1 ≤ k → kp k = true := fun k hk => hkp k (by omega)
        by_cases hbit : bits .and .u64 (p / 2 ^ i) 1 = 1
        · go_wp2_with fail
          exact ⟨⟨i + 1, t + 1, kp, by omega, by go_num, by go_num, HKP.out, by omega, by omega, hkp3, hT, hRW, hBr, hkr0, hkr1⟩, by simp [intOf]; omega⟩
        · by_cases hfew : (K : Int) + (M : Int) - (i : Int) ≤ (K : Int) - (t : Int)
          · go_wp2_with fail
            exact ⟨⟨i + 1, t + 1, kp, by omega, by go_num, by go_num, HKP.out, by omega, by omega, hkp3, hT, hRW, hBr, hkr0, hkr1⟩, by simp [intOf]; omega⟩
          · have hT4 := (hT.stored i (.slice none 0 0)).1
            have hg4 := (hT.stored i (.slice none 0 0)).2
            rw [holeV_set] at hT4
            have hR4 : ∀ k, k < K + M → RowB (wr.setCell ⟨g, i, none⟩ (.slice none 0 0)) (blk k) (rowL nn (Q k)) := fun k hk => (hRW k hk).grown hg4 (by simpa using hbg k hk)
            have hB4 := hBr.setCell (p := ⟨g, i, none⟩) hgw (.slice none 0 0)
            have hk04 := hg4.cell hkr0 (by simpa using hgcb)
            have hk14 := hg4.cell hkr1 (by simpa using hgcb)
            have HST := Lib.hid (htc.out.trans (congrArg List.length (kept_strike (kp := kp) (i := i)).symm))
            have hkp2 : ∀ k, i + 1 ≤ k → (if k = i then false else kp k) = true := fun k hk => by
              have : ¬ k = i := by omega
              simp [this, hkp k (by omega)]
            go_wp2_with fail
            exact ⟨⟨i + 1, t, _, by omega, by go_num, rfl, HST.out, by omega, by omega, hkp2, hT4, hR4, hB4, hk04, hk14⟩, by simp [intOf]; omega⟩
      · have hiN : i = K + M := by omega
        have hnb : ¬ ((i : Int) < (K : Int) + (M : Int)) := by omega
        rw [hiN] at htc
        have hSh := shards_kept (own_at hT) hRW (by omega)
        have hpl := pres_kept (c := nn) (N := K + M) (kp := kp) (Q := Q) (by omega)
        have hlen : K ≤ (presL (holeL nn (K + M) kp Q) (K + M)).length := by rw [hpl, ← htc.out]; omega
        have HJJ := HJ wr _ _ hSh hlen hBr
        clear hiN htc hkp hpl hT hRW hSh hlen HJ
        go_wp2_with fail
        refine HJJ.out.mono ?_
        rintro e w4 ⟨A4, rfl, hA4, hb4⟩
        have hB4 := hBr.trans (hb4.mono hBr.size)
        have HEQ := Lib.hid (equal_calls (n := n') (c := n') (m := n') (d := ca) hA4 (hAl.below hB4) HN.out HN.out)
        rw [decide_eq_true rfl] at HEQ
        clear HJJ hb4
        go_wp2_with fail
        refine HEQ.out.mono ?_
        rintro e w' ⟨rfl, rfl⟩
        go_wp2_with fail
        go_ret
        exact ⟨rfl, hB4⟩

end Go.Proofs.YtibidlgikecelaaDoor
