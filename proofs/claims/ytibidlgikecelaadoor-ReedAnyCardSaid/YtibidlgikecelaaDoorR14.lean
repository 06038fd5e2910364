/- Contract: the law ReedAny. -/
import Derived.Test.YtibidlgikecelaaDoorR13
namespace Go.Proofs.YtibidlgikecelaaDoor
open Go.RowKit
set_option linter.unusedVariables false
set_option linter.unusedSimpArgs false

/-- One more text in its place. -/
theorem texts_put {w : World} {xs : List Value} {n N i : Nat} {kp : Nat → Bool} {Q : Mx} {v : Value} (hT : Texts w xs (holeL n N kp Q)) (hi : i < N) (hv : Row w v (rowL n (Q i))) :
    Texts w (xs.set i v) (holeL n N (fun k => if k = i then true else kp k) Q) := by
  have hlen : xs.length = N := by have := hT.1; simpa using this
  refine ⟨by simp [hlen], ?_⟩
  intro k u l h1 h2
  have hk : k < N := by
    rcases Nat.lt_or_ge k N with h | h
    · exact h
    · rw [List.getElem?_eq_none (by simp [hlen]; exact h)] at h1; cases h1
  rw [holeL_get hk] at h2
  rw [List.getElem?_set] at h1
  by_cases hki : i = k
  · subst hki
    simp [hlen, hi] at h1 h2
    subst h1 h2
    exact hv
  · have hki' : ¬ k = i := fun h => hki h.symm
    rw [if_neg hki] at h1
    simp only [hki', if_false] at h2
    exact hT.2 k u l h1 (by rw [holeL_get hk]; exact h2)
theorem texts_nils (w : World) (n N : Nat) (Q : Mx) : Texts w (List.replicate N (.slice none 0 0)) (holeL n N (fun _ => false) Q) := by
  refine ⟨by simp, ?_⟩
  intro k u l h1 h2
  have hk : k < N := by
    rcases Nat.lt_or_ge k N with h | h
    · exact h
    · rw [List.getElem?_eq_none (by simpa using h)] at h1; cases h1
  rw [holeL_get hk] at h2
  simp [hk] at h1 h2
  subst h1 h2
  exact row_nil w
theorem texts_keep {w w' : World} {sg : Nat} {xs : List Value} {LL : List (List B8)} (hT : Texts w xs LL) (hg : w.grownBy w' (some sg)) (hne : ∀ v, v ∈ xs → v.ownBlock ≠ some sg) : Texts w' xs LL := by
  refine ⟨hT.1, fun i u l h1 h2 => ?_⟩
  have hr := hT.2 i u l h1 h2
  exact hr.grown (v := .slice (some ⟨sg, 0, none⟩) 0 0) hg (fun b hb he => hne u (List.mem_of_getElem? h1) (by
    simp only [Value.ownBlock, Option.some.injEq] at he
    rw [hb, he]))
theorem kept_put {kp : Nat → Bool} {i : Nat} : ((List.range (i + 1)).filter fun k => if k = i then true else kp k).length = ((List.range i).filter kp).length + 1 := by
  rw [List.range_succ, List.filter_append]
  have : (List.range i).filter (fun k => if k = i then true else kp k) = (List.range i).filter kp := List.filter_congr fun k hk => by
    have := List.mem_range.1 hk
    have hne : ¬ k = i := by omega
    simp [hne]
  rw [this]
  simp
theorem kept_skip {kp : Nat → Bool} {i : Nat} (h : kp i = false) : ((List.range (i + 1)).filter kp).length = ((List.range i).filter kp).length := by
  rw [List.range_succ, List.filter_append]
  simp [h]

set_option maxHeartbeats 1000000 in
set_option maxRecDepth 100000 in
theorem reedAny_calls {w : World} {A : Option Addr} {na ca : Nat} {lb : List B8} {x y z p : Int} (hA : At w A (bys lb)) (hna : na = lb.length) (hma : lb.length ≤ 140737488351232) (hF : FoldAt w) (hp : (Lit.int .u64 p).wf = true) :
    Calls Tryd.prog 18 #[.int .i64 x, .int .i64 y, .int .i64 z, .slice A na ca, .int .u64 p] w (RetV w (.bool true)) := by
  obtain ⟨K, hK1, hK2, hKe⟩ := pick_add 1 x 12 (by decide) (by decide) (by decide)
  obtain ⟨M, hM2, hMe⟩ := pick_mod y 6 (by decide) (by decide)
  obtain ⟨n, hn1, hn2, hne⟩ := pick_add 1 z 10 (by decide) (by decide) (by decide)
  rw [Int.natCast_one] at hKe hne
  have HMD := Lib.hid (made_calls (w := w) (ca := ca) hA hna hma (Lib.hid hKe) (Lib.hid hMe) (Lib.hid hne) hK1 (by omega) (by omega) hn1 (by omega) hF)
  clear hKe hMe hne
  have hK12 : K ≤ 12 := by omega
  have hM6 : M < 6 := by omega
  have hn10 : n ≤ 10 := by omega
  clear hK2 hM2 hn2
  subst hna
  go_enter Tryd.func18, Tryd.ntmps18
  go_wp2_with fail
  refine HMD.out.mono ?_
  rintro e w1 ⟨A1, c1, blk, rfl, hG, HB⟩
  obtain ⟨g, rfl, hgB, hc0, hbg, hf0⟩ := hG.cell (i := 0) (by omega)
  have hle := hG.le
  have heq := fun (w : World) => Lib.run_eql_slice_nil (P := Tryd.prog) w 24 22 (some ⟨g, 0, none⟩) (K + M) c1 0 0 Tryd.underlying24
  have hbw := below1' w1 (.cells #[.int .i64 (K : Int), .int .i64 (M : Int)] 38)
  have hk0 : (w1.alloc (.cells #[.int .i64 (K : Int), .int .i64 (M : Int)] 38)).cell? ⟨w1.heap.size, 0, none⟩ = some (.int .i64 (K : Int)) := cell_of_row _ _ 0 _ _ (0, 0) (heap_alloc_new w1 _)
  have hk1 : (w1.alloc (.cells #[.int .i64 (K : Int), .int .i64 (M : Int)] 38)).cell? ⟨w1.heap.size, 1, none⟩ = some (.int .i64 (M : Int)) := cell_of_row _ _ 1 _ _ (0, 0) (heap_alloc_new w1 _)
  have hsz : (w1.alloc (.cells #[.int .i64 (K : Int), .int .i64 (M : Int)] 38)).heap.size = w1.heap.size + 1 := by simp
  have hGw := hG.below hbw
  have hBw := HB.trans (hbw.mono HB.size)
  have hblt : ∀ k, k < K + M → blk k < w1.heap.size := fun k hk => (hG.row k hk).lt
  have hglt : g < w1.heap.size := block_lt hc0
  clear HMD hG hc0 hf0
  have hQ0 : EqM (K + M) n (mulM K (genM K) (mulM K (genM K) (sqM lb n))) (mulM K (genM K) (sqM lb n)) := gen_again (sqM lb n)
  go_wp2_with (refine make_top rfl (.tmp 29) (.tmp 29) rfl (K + M) rfl rfl (by omega) (by omega) (by omega) ?_; intro w3 ht3 hb3 hs3)
  have hb3' := hb3
  rw [hsz] at ht3 hs3 hb3
  have hgw : g < w1.heap.size + 1 := by omega
  have hcw : w1.heap.size < w1.heap.size + 1 := by omega
  have hbl2 : ∀ k, k < K + M → blk k ≠ w1.heap.size + 1 := fun k hk => by have := hblt k hk; omega
  have hgB2 : w.heap.size ≤ w1.heap.size + 1 := by omega
  generalize w1.alloc (.cells #[.int .i64 (K : Int), .int .i64 (M : Int)] 38) = w2 at *
  generalize w1.heap.size + 1 = sg at *
  have HSG := Lib.hid hsz
  clear hsz hs3
  have hbsg : ∀ {wr : World}, Below sg w2 wr → Below w2.heap.size w2 wr := fun h => by rw [HSG.out]; exact h
  have hQD : ∃ D, mulM K (genM K) (sqM lb n) = mulM K (genM K) D := ⟨_, rfl⟩
  generalize mulM K (genM K) (sqM lb n) = Q at *
  have hsgw : sg < w3.heap.size := by
    rcases Nat.lt_or_ge sg w3.heap.size with h | h
    · exact h
    · rw [Array.getElem?_eq_none h] at ht3; cases ht3
  have hT0 : w3.ownsRow sg 22 1 (.slice (some ⟨sg, 0, none⟩) (K + M) (K + M)) (K + M) (List.replicate (K + M) (.slice none 0 0)) :=
    ⟨by simp, .inr ⟨sg, K + M, _, rfl, Nat.le_refl _, ht3, Nat.le_refl _, Nat.le_trans (by omega : K + M ≤ 1000) (by decide), by simp, by simp⟩⟩
  clear ht3
  go_loopw [14, 33] (fun s14 s wr => ∃ (i t : Nat) (kp : Nat → Bool) (xs : List Value), i ≤ K + M ∧ s = .int .i64 ((i : Nat) : Int) ∧ s14 = .int .i64 ((t : Nat) : Int) ∧ Hid (t = ((List.range i).filter kp).length) ∧ K ≤ t + (K + M - i) ∧ t ≤ i ∧ (∀ k, i ≤ k → kp k = false) ∧
    wr.ownsRow sg 22 1 (.slice (some ⟨sg, 0, none⟩) (K + M) (K + M)) (K + M) xs ∧ Texts wr xs (holeL n (K + M) kp Q) ∧ (∀ v, v ∈ xs → v.ownBlock ≠ some sg) ∧ Below sg w2 wr) (fun _ s _ => K + M - (intOf s).toNat)
  case atStart => 
    refine ⟨0, 0, fun _ => false, List.replicate (K + M) (.slice none 0 0), by omega, rfl, rfl, (by simp : (0 : Nat) = ((List.range 0).filter _).length), by omega, by omega, fun _ _ => rfl, hT0, texts_nils _ _ _ _, ?_, hb3⟩
    intro v hv
    rw [List.eq_of_mem_replicate hv]
    exact fun h => by cases h
  case round =>
    obtain ⟨i, t, kp, xs, hi, rfl, rfl, htc, htK, hti, hkp, hT, hX, hown, hBr⟩ := hrel
    clear hT0 hsgw hbw hb3 hb3'
    have hGr := hGw.below (hbsg hBr)
    have hsgr := (own_ge hT).2
    by_cases hin : i < K + M
    · have hii : (i : Int) < (K : Int) + (M : Int) := by omega
      obtain ⟨_, he, _, hci, _, _⟩ := hGr.cell hin
      cases he
      have hrw := hGr.row i hin
      have hk0r := (hBr.cell (p := ⟨w1.heap.size, 0, none⟩) hcw).trans hk0
      have HCL := Lib.hid (clone_calls (w := wr) (c := n) (l := rowL n (Q i)) (n := n) hrw.at (by simp) (fun h => by cases h) (by simp; omega))
      have HST : ∀ (w5 : World) (A5 : Option Addr) (c5 : Nat), w5.ownsRow wr.heap.size 5 1 (.slice A5 n c5) n (bys (rowL n (Q i))) → Below wr.heap.size wr w5 →
          (∃ u, w5.cell? ⟨sg, i, none⟩ = some u) ∧ ∃ (xs' : List Value) (kp' : Nat → Bool), Hid (t + 1 = ((List.range (i + 1)).filter kp').length) ∧ (∀ k, i + 1 ≤ k → kp' k = false) ∧ (w5.setCell ⟨sg, i, none⟩ (.slice A5 n c5)).ownsRow sg 22 1 (.slice (some ⟨sg, 0, none⟩) (K + M) (K + M)) (K + M) xs' ∧
            Texts (w5.setCell ⟨sg, i, none⟩ (.slice A5 n c5)) xs' (holeL n (K + M) kp' Q) ∧ (∀ v, v ∈ xs' → v.ownBlock ≠ some sg) ∧ Below sg w2 (w5.setCell ⟨sg, i, none⟩ (.slice A5 n c5)) := by
        intro w5 A5 c5 ho5 hb5
        have hT5 := own_below hT hb5
        have hX5 := hX.below hb5
        have hst := hT5.stored i (.slice A5 n c5)
        have hvn : (Value.slice A5 n c5).ownBlock ≠ some sg := fun h => by
          have := (ho5.lt sg h).1
          omega
        have hxs' : ∀ v, v ∈ xs.set i (.slice A5 n c5) → v.ownBlock ≠ some sg := fun v hv => by
          rcases List.mem_or_eq_of_mem_set hv with h | h
          · exact hown v h
          · rw [h]; exact hvn
        have hrow5 := own_row ho5 (by simp; omega)
        refine ⟨own_some hT5 hin, xs.set i (.slice A5 n c5), _, Lib.hid ?_, ?_, hst.1, texts_keep (texts_put hX5 hin hrow5) hst.2 hxs', hxs', (hBr.trans (hb5.mono (by omega))).setCell (p := ⟨sg, i, none⟩) (Nat.le_refl _) _⟩
        · rw [kept_put, ← htc.out]
        · intro k hk
          have : ¬ k = i := by omega
          simp [this, hkp k (by omega)]
      by_cases hbit : bits .and .u64 (p / 2 ^ i) 1 = 1
      · go_wp2_with fail
        refine HCL.out.mono ?_
        rintro e w5 ⟨A5, c5, rfl, ho5, hb5⟩
        obtain ⟨⟨u5, hu5⟩, xs', kp', htc', hkp', hT', hX', hown', hB'⟩ := HST w5 A5 c5 ho5 hb5
        have hf5 := (own_below hT hb5).frozenAt i
        clear HST HCL ho5 hb5 hkp htc hT hX hown hBr hGr hci hrw
        go_wp2_with fail
        exact ⟨⟨i + 1, t + 1, kp', xs', by omega, by go_num, by go_num, htc', by omega, by omega, hkp', hT', hX', hown', hB'⟩, by simp [intOf]; omega⟩
      · by_cases hfew : (K : Int) + (M : Int) - (i : Int) ≤ (K : Int) - (t : Int)
        · go_wp2_with fail
          refine HCL.out.mono ?_
          rintro e w5 ⟨A5, c5, rfl, ho5, hb5⟩
          obtain ⟨⟨u5, hu5⟩, xs', kp', htc', hkp', hT', hX', hown', hB'⟩ := HST w5 A5 c5 ho5 hb5
          have hf5 := (own_below hT hb5).frozenAt i
          clear HST HCL ho5 hb5 hkp htc hT hX hown hBr hGr hci hrw
          go_wp2_with fail
          exact ⟨⟨i + 1, t + 1, kp', xs', by omega, by go_num, by go_num, htc', by omega, by omega, hkp', hT', hX', hown', hB'⟩, by simp [intOf]; omega⟩
        · have HSK := Lib.hid (htc.out.trans (kept_skip (hkp i (Nat.le_refl _))).symm)
          have hkp2 : ∀ k, i + 1 ≤ k → kp k = false := fun k hk => hkp k (by omega)
          clear HST HCL hci hrw
          go_wp2_with fail
          exact ⟨⟨i + 1, t, kp, xs, by omega, by go_num, rfl, HSK.out, by omega, by omega, hkp2, hT, hX, hown, hBr⟩, by simp [intOf]; omega⟩
    · have hiN : i = K + M := by omega
      have hnb : ¬ ((i : Int) < (K : Int) + (M : Int)) := by omega
      rw [hiN] at htc
      have hk0r := (hBr.cell (p := ⟨w1.heap.size, 0, none⟩) hcw).trans hk0
      have hk1r := (hBr.cell (p := ⟨w1.heap.size, 1, none⟩) hcw).trans hk1
      have hpl := pres_kept (c := n) (N := K + M) (kp := kp) (Q := Q) hn1
      have hlen : K ≤ (presL (holeL n (K + M) kp Q) (K + M)).length := by rw [hpl, ← htc.out]; omega
      obtain ⟨D, rfl⟩ := hQD
      have hSh : Shards wr (some ⟨sg, 0, none⟩) xs (holeL n (K + M) kp (mulM K (genM K) D)) (K + M) n (mulM K (genM K) D) := by
        refine ⟨own_at hT, hX, by simp, ?_⟩
        intro k l h
        have hk : k < K + M := by
          rcases Nat.lt_or_ge k (K + M) with h' | h'
          · exact h'
          · rw [List.getElem?_eq_none (by simpa using h')] at h; cases h
        rw [holeL_get hk] at h
        cases hkp' : kp k with
        | true => rw [hkp'] at h; exact .inr (Option.some.inj h).symm
        | false => rw [hkp'] at h; exact .inl (Option.some.inj h).symm
      have hFr : FoldAt wr := FoldAt.below hF (hBw.trans (hBr.mono (by omega)))
      have HBW := Lib.hid (hBw.trans (hBr.mono (by omega)))
      clear hiN htc hkp hpl hT hX
      have HD := Lib.hid (decode_calls (cS := K + M) hSh rfl hK1 (by omega) hn1 (by omega) hlen hFr)
      clear hSh hlen
      go_wp2_with fail
      refine HD.out.mono ?_
      rintro e w4 ⟨A4, c4, blk4, rfl, hG4, hb4⟩
      have hG4r := hGr.below hb4
      have hle4 := hG4.le
      have hk04 := (hb4.cell (p := ⟨w1.heap.size, 0, none⟩) (block_lt hk0r)).trans hk0r
      have hk14 := (hb4.cell (p := ⟨w1.heap.size, 1, none⟩) (block_lt hk1r)).trans hk1r
      have hB4 := HBW.out.trans (hb4.mono HBW.out.size)
      have HS := Lib.hid (same_mat (a := c4) (b := c1) (hG4.mat (by omega)) (hG4r.mat (by omega)) (fun _ _ _ _ => rfl) (by omega))
      have HR := Lib.hid (right_yes (cS := c4) (hG4.mat (by omega)) rfl hK1 (by omega) hn1 (by omega) hle4 (FoldAt.below hF hB4) hQ0)
      clear HD hGr hG4 hG4r hk0r hk1r
      go_wp2_with fail
      refine HS.out.mono ?_
      rintro e w5 ⟨rfl, rfl⟩
      go_wp2_with fail
      refine HR.out.mono ?_
      rintro e w6 ⟨rfl, hb6⟩
      go_wp2_with fail
      go_ret
      exact ⟨rfl, hB4.trans (hb6.mono hB4.size)⟩

end Go.Proofs.YtibidlgikecelaaDoor
