/- Contract: the law ReedRepairs. -/
import Derived.Test.YtibidlgikecelaaDoorR11
import Derived.Test.YtibidlgikecelaaDoorR8
namespace Go.Proofs.YtibidlgikecelaaDoor
open Go.RowKit
set_option linter.unusedVariables false
set_option linter.unusedSimpArgs false

/-- All places but one. -/
theorem pres_hole {N c i : Nat} {Q : Mx} (hc : 0 < c) (hi : i < N) : (presL ((rowsL N c Q).set i []) N).length = N - 1 := by
  have h1 : presL ((rowsL N c Q).set i []) N = (List.range N).filter (fun k => k != i) := by
    unfold presL
    refine List.filter_congr fun k hk => ?_
    have hkN := List.mem_range.1 hk
    rw [List.getD_eq_getElem?_getD, List.getElem?_set]
    by_cases hki : i = k
    · subst hki
      simp [hkN]
    · have hki' : ¬ k = i := fun h => hki h.symm
      rw [if_neg hki, rowsL_get hkN]
      have hne : rowL c (Q k) ≠ [] := fun h => by have := congrArg List.length h; simp at this; omega
      simp [hne, hki']
  rw [h1, ← List.Nodup.erase_eq_filter List.nodup_range, List.length_erase_of_mem (List.mem_range.2 hi)]
  simp

theorem row_nil (w : World) : Row w (.slice none 0 0) [] := ⟨none, 0, rfl, At.nil _ _, Nat.le_refl _, fun _ => rfl, by decide⟩
/-- Shards of one's own, one of them struck out. -/
theorem shards_hole {w : World} {A : Option Addr} {blk : Nat → Nat} {N c i : Nat} {Q : Mx} (hA : At w A ((headsV blk N c).set i (.slice none 0 0))) (hr : ∀ k, k < N → RowB w (blk k) (rowL c (Q k))) (hc : c ≤ 1000) (hi : i < N) :
    Shards w A ((headsV blk N c).set i (.slice none 0 0)) ((rowsL N c Q).set i []) N c Q := by
  refine ⟨hA, ⟨by simp, ?_⟩, by simp, ?_⟩
  · intro k v l h1 h2
    rw [List.getElem?_set] at h1 h2
    by_cases hki : i = k
    · subst hki
      simp [hi] at h1 h2
      subst h1 h2
      exact row_nil w
    · rw [if_neg hki] at h1 h2
      have hk : k < N := by
        rcases Nat.lt_or_ge k N with h | h
        · exact h
        · rw [List.getElem?_eq_none (by simpa using h)] at h1; cases h1
      rw [headsV_get hk] at h1
      rw [rowsL_get hk] at h2
      cases h1; cases h2
      exact (hr k hk).row (by simp) (by omega)
  · intro k l h
    rw [List.getElem?_set] at h
    by_cases hki : i = k
    · subst hki
      simp [hi] at h
      first | exact .inl h | exact .inl h.symm
    · rw [if_neg hki] at h
      have hk : k < N := by
        rcases Nat.lt_or_ge k N with h' | h'
        · exact h'
        · rw [List.getElem?_eq_none (by simpa using h')] at h; cases h
      rw [rowsL_get hk] at h
      exact .inr (Option.some.inj h).symm

set_option maxHeartbeats 1000000 in
set_option maxRecDepth 100000 in
theorem reedRepairs_calls {w : World} {A : Option Addr} {na ca : Nat} {lb : List B8} {x y z p : Int} (hA : At w A (bys lb)) (hna : na = lb.length) (hma : lb.length ≤ 140737488351232) (hF : FoldAt w) :
    Calls Tryd.prog 17 #[.int .i64 x, .int .i64 y, .int .i64 z, .slice A na ca, .int .i64 p] w (RetV w (.bool true)) := by
  obtain ⟨K, hK1, hK2, hKe⟩ := pick_add 1 x 12 (by decide) (by decide) (by decide)
  obtain ⟨M, hM2, hMe⟩ := pick_mod y 6 (by decide) (by decide)
  obtain ⟨n, hn1, hn2, hne⟩ := pick_add 1 z 10 (by decide) (by decide) (by decide)
  rw [Int.natCast_one] at hKe hne
  have HMD := Lib.hid (made_calls (w := w) (ca := ca) hA hna hma (Lib.hid hKe) (Lib.hid hMe) (Lib.hid hne) hK1 (by omega) (by omega) hn1 (by omega) hF)
  clear hKe hMe hne
  have hK12 : K ≤ 12 := by omega
  have hM6 : M < 6 := by omega
  have hn10 : n ≤ 10 := by omega
  clear hK2 hM2 hn2
  have HPI := place_tmod (n := K + M) (by omega) p
  have hpi := placeOf_in (n := K + M) (by omega) p
  generalize placeOf (K + M) p = i0 at *
  obtain ⟨i, rfl⟩ := Int.eq_ofNat_of_zero_le hpi.1
  have hi : i < K + M := by omega
  rw [Int.natCast_add] at HPI
  replace HPI := Lib.hid HPI
  clear hpi
  subst hna
  have hNw : IntKind.u64.wrap ((K : Int) + (M : Int)) = (K : Int) + (M : Int) := by rw [IntKind.wrap_u64]; omega
  have hN0 : ¬ ((K : Int) + (M : Int) = 0) := by omega
  go_enter Tryd.func17, Tryd.ntmps17
  go_wp2_with fail
  refine HMD.out.mono ?_
  rintro e w1 ⟨A1, c1, blk, rfl, hG, HB⟩
  obtain ⟨g, rfl, hgB, hc0, hbg, hf0⟩ := hG.cell (i := 0) (by omega)
  have hle := hG.le
  have heq := fun (w : World) => Lib.run_eql_slice_nil (P := Tryd.prog) w 24 22 (some ⟨g, 0, none⟩) (K + M) c1 0 0 Tryd.underlying24
  have hbw := below1' w1 (.cells #[.int .i64 (K : Int), .int .i64 (M : Int)] 38)
  have hk0 : (w1.alloc (.cells #[.int .i64 (K : Int), .int .i64 (M : Int)] 38)).cell? ⟨w1.heap.size, 0, none⟩ = some (.int .i64 (K : Int)) := cell_of_row _ _ 0 _ _ (0, 0) (heap_alloc_new w1 _)
  have hk1 : (w1.alloc (.cells #[.int .i64 (K : Int), .int .i64 (M : Int)] 38)).cell? ⟨w1.heap.size, 1, none⟩ = some (.int .i64 (M : Int)) := cell_of_row _ _ 1 _ _ (0, 0) (heap_alloc_new w1 _)
  have hsz : (w1.alloc (.cells #[.int .i64 (K : Int), .int .i64 (M : Int)] 38)).heap.size = w1.heap.size + 1 := by simp
  have hGw := hG.below hbw
  have hBw := HB.trans (hbw.mono HB.size)
  have hblt : ∀ k, k < K + M → blk k < w1.heap.size := fun k hk => (hG.row k hk).lt
  have hglt : g < w1.heap.size := block_lt hc0
  clear HMD hG hc0 hf0
  obtain ⟨_, he, _, hci, _, hfi⟩ := hGw.cell hi
  cases he
  have hii : (i : Int) < (K : Int) + (M : Int) := by omega
  have hQd : ∃ D, mulM K (genM K) (sqM lb n) = mulM K (genM K) D := ⟨_, rfl⟩
  have hrowi := (hGw.row i hi).lt
  have hgcb : w1.heap.size ≠ g := by omega
  have hgcb2 : g ≠ w1.heap.size := by omega
  have HPT := HPI.out
  go_wp2_with fail
  clear HPT HPI hNw heq
  rw [show (w1.setCell ⟨g, i, none⟩ (.slice none 0 0)).alloc (.cells #[.int .i64 (K : Int), .int .i64 (M : Int)] 38) = (w1.alloc (.cells #[.int .i64 (K : Int), .int .i64 (M : Int)] 38)).setCell ⟨g, i, none⟩ (.slice none 0 0) from (World.setCell_alloc_past (w := w1) _ g i _ hglt).symm]
  generalize w1.alloc (.cells #[.int .i64 (K : Int), .int .i64 (M : Int)] 38) = w2 at *
  have hT := hGw.own.stored i (.slice none 0 0)
  have hg3 := hT.2
  have hA3 := own_at hT.1
  have hR3 : ∀ k, k < K + M → RowB (w2.setCell ⟨g, i, none⟩ (.slice none 0 0)) (blk k) (rowL n (mulM K (genM K) (sqM lb n) k)) := fun k hk => (hGw.row k hk).grown hg3 (by simpa using hbg k hk)
  have hSh := shards_hole hA3 hR3 (by omega) hi
  have hB3 := hBw.setCell (p := ⟨g, i, none⟩) hgB (.slice none 0 0)
  have hk13 := hg3.cell hk1 (by simpa using hgcb)
  have hWant := hR3 i hi
  have hpl := pres_hole (Q := mulM K (genM K) (sqM lb n)) (c := n) hn1 hi
  clear hT hA3 hR3 hGw hBw hbw hk0 hk1 hci hfi
  generalize w2.setCell ⟨g, i, none⟩ (.slice none 0 0) = w3 at *
  by_cases hM0 : M = 0
  · have HF := Lib.hid (repair_few (cS := c1) hSh rfl hK1 (by omega) hn1 (by rw [hpl]; omega) hi)
    have hMi : ((M : Int) == 0) = true := by simp [hM0]
    clear hM0 hSh hpl
    refine HF.out.mono ?_
    rintro e w4 ⟨rfl, hb4⟩
    have hk14 := (hb4.cell (p := ⟨w1.heap.size, 1, none⟩) (block_lt hk13)).trans hk13
    go_wp2_with fail
    go_ret
    exact ⟨rfl, hB3.trans (hb4.mono hB3.size)⟩
  · have HF := Lib.hid (repair_calls (cS := c1) hSh rfl hK1 (by omega) hn1 (by omega) (by rw [hpl]; omega) hi (FoldAt.below hF hB3))
    have hMi : ((M : Int) == 0) = false := by simp; omega
    clear hM0 hSh hpl
    refine HF.out.mono ?_
    rintro e w4 ⟨b4, rfl, hr4, hb4⟩
    have hk14 := (hb4.cell (p := ⟨w1.heap.size, 1, none⟩) (block_lt hk13)).trans hk13
    have hW4 := hWant.below hb4 hWant.lt
    have HEQ := Lib.hid (equal_calls (n := n) (c := n) (m := n) (d := n) hr4.at hW4.at (by simp) (by simp))
    rw [decide_eq_true rfl] at HEQ
    go_wp2_with fail
    refine HEQ.out.mono ?_
    rintro e w' ⟨rfl, rfl⟩
    go_wp2_with fail
    go_ret
    exact ⟨rfl, hB3.trans (hb4.mono hB3.size)⟩

end Go.Proofs.YtibidlgikecelaaDoor
