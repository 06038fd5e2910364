/- Contract: the law ReedFew. -/
import Derived.Test.YtibidlgikecelaaDoorR12
namespace Go.Proofs.YtibidlgikecelaaDoor
open Go.RowKit
set_option linter.unusedVariables false
set_option linter.unusedSimpArgs false

/-- Heads, some struck out. -/
def holeV (blk : Nat → Nat) (c N : Nat) (kp : Nat → Bool) : List Value := (List.range N).map fun k => if kp k then .slice (some ⟨blk k, 0, none⟩) c c else .slice none 0 0
def holeL (c N : Nat) (kp : Nat → Bool) (Q : Mx) : List (List B8) := (List.range N).map fun k => if kp k then rowL c (Q k) else []
@[simp] theorem length_holeV (blk : Nat → Nat) (c N : Nat) (kp : Nat → Bool) : (holeV blk c N kp).length = N := by simp [holeV]
@[simp] theorem length_holeL (c N : Nat) (kp : Nat → Bool) (Q : Mx) : (holeL c N kp Q).length = N := by simp [holeL]
theorem holeV_get {blk : Nat → Nat} {c N k : Nat} {kp : Nat → Bool} (h : k < N) : (holeV blk c N kp)[k]? = some (if kp k then .slice (some ⟨blk k, 0, none⟩) c c else .slice none 0 0) := by simp [holeV, h]
theorem holeL_get {c N k : Nat} {kp : Nat → Bool} {Q : Mx} (h : k < N) : (holeL c N kp Q)[k]? = some (if kp k then rowL c (Q k) else []) := by simp [holeL, h]
theorem holeV_set (blk : Nat → Nat) (c N i : Nat) (kp : Nat → Bool) : (holeV blk c N kp).set i (.slice none 0 0) = holeV blk c N (fun k => if k = i then false else kp k) := by
  apply List.ext_getElem?
  intro k
  rw [List.getElem?_set]
  by_cases hk : k < N
  · rw [holeV_get hk, holeV_get hk]
    by_cases hki : i = k
    · subst hki; simp [hk]
    · have : ¬ k = i := fun h => hki h.symm
      simp [hki, this]
  · have e1 : (holeV blk c N kp)[k]? = none := List.getElem?_eq_none (by simpa using hk)
    have e2 : (holeV blk c N (fun k => if k = i then false else kp k))[k]? = none := List.getElem?_eq_none (by simpa using hk)
    rw [e2]
    by_cases hki : i = k
    · simp [hki, hk]
    · simp [hki, e1]
theorem holeV_full (blk : Nat → Nat) (c N : Nat) : headsV blk N c = holeV blk c N (fun _ => true) := by simp [holeV, headsV]
theorem pres_kept {c N : Nat} {kp : Nat → Bool} {Q : Mx} (hc : 0 < c) : presL (holeL c N kp Q) N = (List.range N).filter kp := by
  unfold presL
  refine List.filter_congr fun k hk => ?_
  have hkN := List.mem_range.1 hk
  rw [List.getD_eq_getElem?_getD, holeL_get hkN]
  have hne : rowL c (Q k) ≠ [] := fun h => by have := congrArg List.length h; simp at this; omega
  cases kp k <;> simp [hne]
theorem shards_kept {w : World} {A : Option Addr} {blk : Nat → Nat} {N c : Nat} {kp : Nat → Bool} {Q : Mx} (hA : At w A (holeV blk c N kp)) (hr : ∀ k, k < N → RowB w (blk k) (rowL c (Q k))) (hc : c ≤ 1000) :
    Shards w A (holeV blk c N kp) (holeL c N kp Q) N c Q := by
  refine ⟨hA, ⟨by simp, ?_⟩, by simp, ?_⟩
  · intro k v l h1 h2
    have hk : k < N := by
      rcases Nat.lt_or_ge k N with h | h
      · exact h
      · rw [List.getElem?_eq_none (by simpa using h)] at h1; cases h1
    rw [holeV_get hk] at h1
    rw [holeL_get hk] at h2
    cases hkp : kp k with
    | true =>
      rw [hkp] at h1 h2
      cases h1; cases h2
      exact (hr k hk).row (by simp) (by omega)
    | false =>
      rw [hkp] at h1 h2
      cases h1; cases h2
      exact row_nil w
  · intro k l h
    have hk : k < N := by
      rcases Nat.lt_or_ge k N with h' | h'
      · exact h'
      · rw [List.getElem?_eq_none (by simpa using h')] at h; cases h
    rw [holeL_get hk] at h
    cases hkp : kp k with
    | true => rw [hkp] at h; exact .inr (Option.some.inj h).symm
    | false => rw [hkp] at h; exact .inl (Option.some.inj h).symm
theorem kept_strike {kp : Nat → Bool} {i : Nat} : ((List.range (i + 1)).filter fun k => if k = i then false else kp k) = (List.range i).filter kp := by
  rw [List.range_succ, List.filter_append]
  simp
  refine List.filter_congr fun k hk => ?_
  have := List.mem_range.1 hk
  have hne : ¬ k = i := by omega
  simp [hne]
theorem kept_keep {kp : Nat → Bool} {i : Nat} (h : kp i = true) : ((List.range (i + 1)).filter kp).length = ((List.range i).filter kp).length + 1 := by
  rw [List.range_succ, List.filter_append]
  simp [h]

set_option maxHeartbeats 1000000 in
set_option maxRecDepth 100000 in
theorem right_few {w : World} {K M N c cS : Nat} {S : Option Addr} {vs : List Value} {LL : List (List B8)} {Q : Mx} (hS : Shards w S vs LL N c Q) (hNK : N = K + M) (hK1 : 1 ≤ K) (hKM : K + M ≤ 255) (hc : 0 < c)
    (hp : (presL LL N).length < N) :
    Calls Tryd.prog 45 #[.agg #[.int .i64 (K : Int), .int .i64 (M : Int)], .slice S N cS] w (RetV w (.bool false)) := by
  have hb1 := below1' w (.cells #[.int .i64 (K : Int), .int .i64 (M : Int)] 38)
  have hk0 : (w.alloc (.cells #[.int .i64 (K : Int), .int .i64 (M : Int)] 38)).cell? ⟨w.heap.size, 0, none⟩ = some (.int .i64 (K : Int)) := cell_of_row _ _ 0 _ _ (0, 0) (heap_alloc_new w _)
  have hk1 : (w.alloc (.cells #[.int .i64 (K : Int), .int .i64 (M : Int)] 38)).cell? ⟨w.heap.size, 1, none⟩ = some (.int .i64 (M : Int)) := cell_of_row _ _ 1 _ _ (0, 0) (heap_alloc_new w _)
  have HNK := Lib.hid hNK
  clear hNK
  go_enter Tryd.func45, Tryd.ntmps45
  go_wp2_with fail
  generalize w.alloc (.cells #[.int .i64 (K : Int), .int .i64 (M : Int)] 38) = wa at *
  refine (some_calls (c := c) (cS := cS) (hS.at'.below hb1) (hS.tx.below hb1) hS.len HNK.out hK1 hKM hS.all hc).mono ?_
  generalize presL LL N = pl at *
  rintro e w3 ⟨Al, cl, rfl, hAl, hlc, hnil, hb3⟩
  have hlt : (pl.length : Int) < (N : Int) := by omega
  go_wp2_with fail
  go_ret
  exact ⟨rfl, hb1.trans (hb3.mono hb1.size)⟩

set_option maxHeartbeats 1000000 in
set_option maxRecDepth 100000 in
theorem reedFew_calls {w : World} {A : Option Addr} {na ca : Nat} {lb : List B8} {x y z p : Int} (hA : At w A (bys lb)) (hna : na = lb.length) (hma : lb.length ≤ 140737488351232) (hF : FoldAt w) (hp : (Lit.int .u64 p).wf = true) :
    Calls Tryd.prog 19 #[.int .i64 x, .int .i64 y, .int .i64 z, .slice A na ca, .int .u64 p] w (RetV w (.bool true)) := by
  obtain ⟨K, hK1, hK2, hKe⟩ := pick_add 1 x 12 (by decide) (by decide) (by decide)
  obtain ⟨M, hM2, hMe⟩ := pick_mod y 6 (by decide) (by decide)
  obtain ⟨n, hn1, hn2, hne⟩ := pick_add 1 z 10 (by decide) (by decide) (by decide)
  rw [Int.natCast_one] at hKe hne
  have HMD := Lib.hid (made_calls (w := w) (ca := ca) hA hna hma (Lib.hid hKe) (Lib.hid hMe) (Lib.hid hne) hK1 (by omega) (by omega) hn1 (by omega) hF)
  clear hKe hMe hne
  have hK12 : K ≤ 12 := by omega
  have hM6 : M < 6 := by omega
  have hn10 : n ≤ 10 := by omega
  clear hK2 hM2 hn2
  subst hna
  go_enter Tryd.func19, Tryd.ntmps19
  go_wp2_with fail
  refine HMD.out.mono ?_
  rintro e w1 ⟨A1, c1, blk, rfl, hG, HB⟩
  obtain ⟨g, rfl, hgB, hc0, hbg, hf0⟩ := hG.cell (i := 0) (by omega)
  have hle := hG.le
  have heq := fun (w : World) => Lib.run_eql_slice_nil (P := Tryd.prog) w 24 22 (some ⟨g, 0, none⟩) (K + M) c1 0 0 Tryd.underlying24
  have hbw := below1' w1 (.cells #[.int .i64 (K : Int), .int .i64 (M : Int)] 38)
  have hk0 : (w1.alloc (.cells #[.int .i64 (K : Int), .int .i64 (M : Int)] 38)).cell? ⟨w1.heap.size, 0, none⟩ = some (.int .i64 (K : Int)) := cell_of_row _ _ 0 _ _ (0, 0) (heap_alloc_new w1 _)
  have hk1 : (w1.alloc (.cells #[.int .i64 (K : Int), .int .i64 (M : Int)] 38)).cell? ⟨w1.heap.size, 1, none⟩ = some (.int .i64 (M : Int)) := cell_of_row _ _ 1 _ _ (0, 0) (heap_alloc_new w1 _)
  have hsz : (w1.alloc (.cells #[.int .i64 (K : Int), .int .i64 (M : Int)] 38)).heap.size = w1.heap.size + 1 := by simp
  have hGw := hG.below hbw
  have hBw := HB.trans (hbw.mono HB.size)
  have hblt : ∀ k, k < K + M → blk k < w1.heap.size := fun k hk => (hG.row k hk).lt
  have hglt : g < w1.heap.size := block_lt hc0
  clear HMD hG hc0 hf0
  go_wp2_with fail
  generalize w1.alloc (.cells #[.int .i64 (K : Int), .int .i64 (M : Int)] 38) = w2 at *
  have hown0 := hGw.own
  rw [holeV_full] at hown0
  have hrow0 := hGw.row
  generalize mulM K (genM K) (sqM lb n) = Q at *
  go_loopw [13, 31] (fun s13 s wr => ∃ (i t : Nat) (kp : Nat → Bool), i ≤ K + M ∧ s = .int .i64 ((i : Nat) : Int) ∧ s13 = .int .i64 ((t : Nat) : Int) ∧ t + 1 ≤ K ∧ Hid (t = ((List.range i).filter kp).length) ∧ (∀ k, i ≤ k → kp k = true) ∧
    wr.ownsRow w.heap.size 22 1 (.slice (some ⟨g, 0, none⟩) (K + M) c1) (K + M) (holeV blk n (K + M) kp) ∧ (∀ k, k < K + M → RowB wr (blk k) (rowL n (Q k))) ∧ Below w.heap.size w wr ∧
    wr.cell? ⟨w1.heap.size, 0, none⟩ = some (.int .i64 (K : Int)) ∧ wr.cell? ⟨w1.heap.size, 1, none⟩ = some (.int .i64 (M : Int))) (fun _ s _ => K + M - (intOf s).toNat)
  case atStart => exact ⟨0, 0, fun _ => true, by omega, rfl, rfl, hK1, (by simp : (0 : Nat) = ((List.range 0).filter _).length), fun _ _ => rfl, hown0, hrow0, hBw, hk0, hk1⟩
  case round =>
    obtain ⟨i, t, kp, hi, rfl, rfl, ht, htc, hkp, hT, hRW, hBr, hkr0, hkr1⟩ := hrel
    clear hown0 hrow0 hGw hBw hk0 hk1 hbw
    by_cases hin : i < K + M
    · have hii : (i : Int) < (K : Int) + (M : Int) := by omega
      have hci := hT.cellAt i (by omega)
      rw [holeV_get hin] at hci
      have hfi := hT.frozenAt i
      have hgcb : w1.heap.size ≠ g := by omega
      have hT4 := (hT.stored i (.slice none 0 0)).1
      have hg4 := (hT.stored i (.slice none 0 0)).2
      rw [holeV_set] at hT4
      have hR4 : ∀ k, k < K + M → RowB (wr.setCell ⟨g, i, none⟩ (.slice none 0 0)) (blk k) (rowL n (Q k)) := fun k hk => (hRW k hk).grown hg4 (by simpa using hbg k hk)
      have hB4 := hBr.setCell (p := ⟨g, i, none⟩) hgB (.slice none 0 0)
      have hk04 := hg4.cell hkr0 (by simpa using hgcb)
      have hk14 := hg4.cell hkr1 (by simpa using hgcb)
      have HST := Lib.hid (htc.out.trans (congrArg List.length (kept_strike (kp := kp) (i := i)).symm))
      have HKP := Lib.hid (show t + 1 = ((List.range (i + 1)).filter kp).length by rw [kept_keep (hkp i (Nat.le_refl _)), ← htc.out])
      have hkp2 : ∀ k, i + 1 ≤ k → (if k = i then false else kp k) = true := fun k hk => by
        have : ¬ k = i := by omega
        simp [this, hkp k (by omega)]
      have hkp3 : ∀ k, i + 1 ≤ k → kp k = true := fun k hk => hkp k (by omega)
      have hkpi := Lib.hid hkp
      clear hkp
      by_cases hbit : bits .and .u64 (p / 2 ^ i) 1 = 0
      · go_wp2_with fail
        exact ⟨⟨i + 1, t, _, by omega, by go_num, rfl, ht, HST.out, hkp2, hT4, hR4, hB4, hk04, hk14⟩, by simp [intOf]; omega⟩
      · by_cases htK : t + 1 = K
        · have htKi : (t : Int) = (K : Int) - 1 := by omega
          have htKb : ((t : Int) == (K : Int) - 1) = true := by simp; omega
          clear htKi htK
          go_wp2_with fail
          exact ⟨⟨i + 1, t, _, by omega, by go_num, rfl, ht, HST.out, hkp2, hT4, hR4, hB4, hk04, hk14⟩, by simp [intOf]; omega⟩
        · have htKb : ((t : Int) == (K : Int) - 1) = false := by simp; omega
          have ht2 : t + 1 + 1 ≤ K := by omega
          clear htK
          go_wp2_with fail
          exact ⟨⟨i + 1, t + 1, kp, by omega, by go_num, by go_num, ht2, HKP.out, hkp3, hT, hRW, hBr, hkr0, hkr1⟩, by simp [intOf]; omega⟩
    · have hiN : i = K + M := by omega
      have hnb : ¬ ((i : Int) < (K : Int) + (M : Int)) := by omega
      rw [hiN] at htc
      have hSh := shards_kept (own_at hT) hRW (by omega)
      have hpl := pres_kept (c := n) (N := K + M) (kp := kp) (Q := Q) hn1
      have hlen : (presL (holeL n (K + M) kp Q) (K + M)).length < K := by rw [hpl, ← htc.out]; omega
      clear hiN htc hkp hpl hT hRW
      have HD := Lib.hid (decode_few (cS := c1) hSh rfl hK1 (by omega) hn1 hlen)
      go_wp2_with fail
      refine HD.out.mono ?_
      rintro e w4 ⟨rfl, hb4⟩
      have hS4 := hSh.below hb4
      have hB4 := hBr.trans (hb4.mono hBr.size)
      have hk04 := (hb4.cell (p := ⟨w1.heap.size, 0, none⟩) (block_lt hkr0)).trans hkr0
      have hk14 := (hb4.cell (p := ⟨w1.heap.size, 1, none⟩) (block_lt hkr1)).trans hkr1
      have HP := Lib.hid (repair_few (cS := c1) (i := 0) hS4 rfl hK1 (by omega) hn1 hlen (by omega))
      clear HD hSh hkr0 hkr1
      go_wp2_with fail
      refine HP.out.mono ?_
      rintro e w5 ⟨rfl, hb5⟩
      have hB5 := hB4.trans (hb5.mono hB4.size)
      have hk05 := (hb5.cell (p := ⟨w1.heap.size, 0, none⟩) (block_lt hk04)).trans hk04
      have hk15 := (hb5.cell (p := ⟨w1.heap.size, 1, none⟩) (block_lt hk14)).trans hk14
      have HR := Lib.hid (right_few (cS := c1) (hS4.below hb5) rfl hK1 (by omega) hn1 (by omega))
      clear HP hS4 hk04 hk14
      go_wp2_with fail
      refine HR.out.mono ?_
      rintro e w6 ⟨rfl, hb6⟩
      go_wp2_with fail
      go_ret
      exact ⟨rfl, hB5.trans (hb6.mono hB5.size)⟩

end Go.Proofs.YtibidlgikecelaaDoor
