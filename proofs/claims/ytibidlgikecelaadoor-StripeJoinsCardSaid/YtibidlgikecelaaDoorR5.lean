/- Contract: the law ReedPlaces. -/
import Derived.Test.YtibidlgikecelaaDoorR4
import Derived.Test.YtibidlgikecelaaDoorW15
namespace Go.Proofs.YtibidlgikecelaaDoor
open Go.RowKit
set_option linter.unusedVariables false
set_option linter.unusedSimpArgs false

/-- Heads of rows, cut to lengths of their own. -/
def headsL (blk len : Nat → Nat) (n r : Nat) : List Value := (List.range r).map fun i => .slice (some ⟨blk i, 0, none⟩) (len i) n
@[simp] theorem length_headsL (blk len : Nat → Nat) (n r : Nat) : (headsL blk len n r).length = r := by simp [headsL]
theorem headsL_get {blk len : Nat → Nat} {n r i : Nat} (h : i < r) : (headsL blk len n r)[i]? = some (.slice (some ⟨blk i, 0, none⟩) (len i) n) := by simp [headsL, h]
theorem headsL_V (blk : Nat → Nat) (n r : Nat) : headsV blk r n = headsL blk (fun _ => n) n r := rfl
theorem headsL_congr {blk len len' : Nat → Nat} {n r : Nat} (h : ∀ i, i < r → len i = len' i) : headsL blk len n r = headsL blk len' n r := by
  refine List.map_congr_left fun i hi => ?_
  rw [h i (by simpa using hi)]
theorem headsL_set (blk len : Nat → Nat) (n r i a : Nat) : (headsL blk len n r).set i (.slice (some ⟨blk i, 0, none⟩) a n) = headsL blk (fun k => if k = i then a else len k) n r := by
  apply List.ext_getElem?
  intro k
  rw [List.getElem?_set]
  by_cases hk : k < r
  · rw [headsL_get hk, headsL_get hk]
    by_cases hki : i = k
    · subst hki; simp [hk]
    · have : ¬ k = i := fun h => hki h.symm
      simp [hki, this]
  · have e1 : (headsL blk len n r)[k]? = none := List.getElem?_eq_none (by simpa using hk)
    have e2 : (headsL blk (fun k => if k = i then a else len k) n r)[k]? = none := List.getElem?_eq_none (by simpa using hk)
    rw [e2]
    by_cases hki : i = k
    · simp [hki, hk]
    · simp [hki, e1]
theorem headsL_snoc (blk len : Nat → Nat) (n r : Nat) : headsL blk len n r ++ [.slice (some ⟨blk r, 0, none⟩) (len r) n] = headsL blk len n (r + 1) := by
  unfold headsL
  rw [List.range_succ, List.map_append]
  rfl
theorem rowL_take {n a : Nat} (f : Nat → B8) (h : a ≤ n) : (rowL n f).take a = rowL a f := by
  apply List.ext_getElem?
  intro i
  rw [List.getElem?_take]
  by_cases hi : i < a
  · rw [if_pos hi, rowL_get (by omega), rowL_get hi]
  · rw [if_neg hi, List.getElem?_eq_none (by simpa using hi)]
theorem RowB.rowTake {w : World} {k n a : Nat} {f : Nat → B8} (h : RowB w k (rowL n f)) (ha : a ≤ n) (hm : n ≤ 140737488351232) : Row w (.slice (some ⟨k, 0, none⟩) a n) (rowL a f) := by
  refine ⟨_, n, by rw [length_rowL], ?_, by rw [length_rowL]; exact ha, (fun h => by cases h), by rw [length_rowL]; omega⟩
  have := h.at.take a
  rwa [bys_take, rowL_take f ha] at this
/-- Cut rows, read. -/
theorem mat_cut {w : World} {A : Option Addr} {blk : Nat → Nat} {r n a : Nat} {M : Mx} (hA : At w A (headsL blk (fun _ => a) n r)) (hr : ∀ i, i < r → RowB w (blk i) (rowL n (M i))) (ha : a ≤ n) (hn : n ≤ 1000) : MatAt w A r a M := by
  refine ⟨_, hA, by simp, ?_⟩
  intro i v l h1 h2
  have hi : i < r := by
    rcases Nat.lt_or_ge i r with h | h
    · exact h
    · rw [List.getElem?_eq_none (by simpa using h)] at h1; cases h1
  rw [headsL_get hi] at h1
  rw [rowsL_get hi] at h2
  cases h1; cases h2
  exact (hr i hi).rowTake ha (by omega)
/-- A code word's data give it again. -/
theorem gen_again {K c r : Nat} (D : Mx) : EqM r c (mulM K (genM K) (mulM K (genM K) D)) (mulM K (genM K) D) := by
  intro i j hi hj
  unfold mulM
  refine xs_congr fun k hk => ?_
  congr 1
  exact gen_top D k j hk hj

theorem encode_mat {w : World} {K M c cS : Nat} {S : Option Addr} {D : Mx} (hS : MatAt w S K c D) (hK : 1 ≤ K) (hKM : K + M ≤ 255) (hc : 0 < c) (hc2 : c ≤ 1000) (hF : FoldAt w) :
    Calls Tryd.prog 30 #[.agg #[.int .i64 (K : Int), .int .i64 (M : Int)], .slice S K cS] w fun e w' => ∃ A cap, e = .returned (.tuple #[.slice A (K + M) cap, .int .i64 0]) ∧ MatAt w' A (K + M) c (mulM K (genM K) D) ∧ Below w.heap.size w w' := by
  refine (encode_calls hS hK hKM hc (by omega) hF).mono ?_
  rintro e w' ⟨A, cap, blk, rfl, hG, hb⟩
  exact ⟨A, cap, rfl, hG.mat hc2, hb⟩

set_option maxHeartbeats 1000000 in
set_option maxRecDepth 100000 in
theorem reedPlaces_calls {w : World} {A : Option Addr} {na ca : Nat} {lb : List B8} {x y z u : Int} (hA : At w A (bys lb)) (hna : na = lb.length) (hma : lb.length ≤ 140737488351232) (hF : FoldAt w) :
    Calls Tryd.prog 6 #[.int .i64 x, .int .i64 y, .int .i64 z, .slice A na ca, .int .i64 u] w (RetV w (.bool true)) := by
  obtain ⟨K, hK1, hK2, hKe⟩ := pick_add 1 x 12 (by decide) (by decide) (by decide)
  obtain ⟨M, hM2, hMe⟩ := pick_mod y 6 (by decide) (by decide)
  obtain ⟨n, hn1, hn2, hne⟩ := pick_add 1 z 10 (by decide) (by decide) (by decide)
  rw [Int.natCast_one] at hKe hne
  have HMD := Lib.hid (made_calls (w := w) (ca := ca) hA hna hma (Lib.hid hKe) (Lib.hid hMe) (Lib.hid hne) hK1 (by omega) (by omega) hn1 (by omega) hF)
  clear hKe hMe hne
  have hK12 : K ≤ 12 := by omega
  have hM6 : M < 6 := by omega
  have hn10 : n ≤ 10 := by omega
  clear hK2 hM2 hn2
  have HPL := Lib.hid (place_wrap (n := n) (by omega) (by omega) u)
  have hpin := placeOf_in (n := n) (by omega) u
  generalize placeOf n u = pz at *
  obtain ⟨a0, rfl⟩ := Int.eq_ofNat_of_zero_le hpin.1
  have ha0 : a0 < n := by omega
  clear hpin
  subst hna
  go_enter Tryd.func6, Tryd.ntmps6
  go_wp2_with fail
  refine HMD.out.mono ?_
  rintro e w1 ⟨A1, c1, blk, rfl, hG, HB⟩
  obtain ⟨g, rfl, hgB, hc0, hbg, hf0⟩ := hG.cell (i := 0) (by omega)
  have hle := hG.le
  have heq := fun (w : World) => Lib.run_eql_slice_nil (P := Tryd.prog) w 24 22 (some ⟨g, 0, none⟩) (K + M) c1 0 0 Tryd.underlying24
  have hnw : IntKind.u64.wrap (n : Int) = (n : Int) := by rw [IntKind.wrap_u64]; omega
  have hn0 : n ≠ 0 := by omega
  have hbw := below1' w1 (.cells #[.int .i64 (K : Int), .int .i64 (M : Int)] 38)
  have hc0w := (hbw.cell (p := ⟨g, 0, none⟩) (block_lt hc0)).trans hc0
  have hk0 : (w1.alloc (.cells #[.int .i64 (K : Int), .int .i64 (M : Int)] 38)).cell? ⟨w1.heap.size, 0, none⟩ = some (.int .i64 (K : Int)) := cell_of_row _ _ 0 _ _ (0, 0) (heap_alloc_new w1 _)
  have hk1 : (w1.alloc (.cells #[.int .i64 (K : Int), .int .i64 (M : Int)] 38)).cell? ⟨w1.heap.size, 1, none⟩ = some (.int .i64 (M : Int)) := cell_of_row _ _ 1 _ _ (0, 0) (heap_alloc_new w1 _)
  have hsz : (w1.alloc (.cells #[.int .i64 (K : Int), .int .i64 (M : Int)] 38)).heap.size = w1.heap.size + 1 := by simp
  have hGw := hG.below hbw
  have hBw := HB.trans (hbw.mono HB.size)
  have hlt : ∀ k, k < K + M → blk k < w1.heap.size := fun k hk => (hG.row k hk).lt
  have hgl := block_lt hc0
  obtain ⟨a, hae⟩ : ∃ a : Nat, a = 1 + a0 := ⟨_, rfl⟩
  have han : a ≤ n := by omega
  have ha1 : 1 ≤ a := by omega
  have HAE := Lib.hid (show wrap64 (1 + (a0 : Int)) = (a : Int) by rw [IntWalk.wrap64_in _ (by omega)]; omega)
  clear HMD hG hc0 hf0 hbw hae ha0
  go_wp2_with fail
  rw [HPL.out, HAE.out]
  clear HPL HAE heq hnw
  generalize w1.alloc (.cells #[.int .i64 (K : Int), .int .i64 (M : Int)] 38) = ws at *
  have hz1 := HB.size
  have hown0 : ws.ownsRow w.heap.size 22 1 (.slice (some ⟨g, 0, none⟩) (K + M) c1) (K + M) (headsL blk (fun k => if k < 0 then a else n) n (K + M)) := by
    have h := hGw.own
    rw [headsL_V] at h
    rwa [headsL_congr (len' := fun k => if k < 0 then a else n) (fun i _ => by simp)] at h
  have HROW := hGw.row
  clear hGw hc0w
  have hQ : ∀ r c, EqM r c (mulM K (genM K) (mulM K (genM K) (sqM lb n))) (mulM K (genM K) (sqM lb n)) := fun r c => gen_again (sqM lb n)
  generalize mulM K (genM K) (sqM lb n) = Q at *
  go_loopw [13, 39] (fun s13 s wr => ∃ (i j : Nat) (A' : Option Addr) (c' : Nat), i ≤ K + M ∧ Hid (j = min i K) ∧ s = .int .i64 ((i : Nat) : Int) ∧ s13 = .slice A' j c' ∧
    wr.ownsRow w.heap.size 22 1 (.slice (some ⟨g, 0, none⟩) (K + M) c1) (K + M) (headsL blk (fun k => if k < i then a else n) n (K + M)) ∧
    wr.ownsRow (w1.heap.size + 1) 22 1 (.slice A' j c') j (headsL blk (fun _ => a) n j) ∧ (∀ k, k < K + M → RowB wr (blk k) (rowL n (Q k))) ∧ Below w.heap.size w wr ∧ w1.heap.size + 1 ≤ wr.heap.size ∧
    wr.cell? ⟨w1.heap.size, 0, none⟩ = some (.int .i64 (K : Int)) ∧ wr.cell? ⟨w1.heap.size, 1, none⟩ = some (.int .i64 (M : Int))) (fun _ s _ => K + M - (intOf s).toNat)
  case atStart => exact ⟨0, 0, none, 0, by omega, (by simp : (0 : Nat) = min 0 K), rfl, rfl, hown0, World.ownsRow_nil _ _ _ _, HROW, hBw, by omega, hk0, hk1⟩
  case round =>
    obtain ⟨i, j, A', c', hi, hj, rfl, rfl, hT, hD, hRW, hBr, hzr, hkr0, hkr1⟩ := hrel
    clear hown0 HROW hBw hk0 hk1
    by_cases hin : i < K + M
    · have hii : (i : Int) < (K : Int) + (M : Int) := by omega
      have hci := hT.cellAt i (by omega)
      rw [headsL_get hin, if_neg (Nat.lt_irrefl i)] at hci
      have hfi := hT.frozenAt i
      have hani : (a : Int) ≤ (n : Int) := by omega
      have hgcb : w1.heap.size ≠ g := by omega
      have hgcb2 : g ≠ w1.heap.size := by omega
      have hT4 := (hT.stored i (.slice (some ⟨blk i, 0, none⟩) a n)).1
      have hg4 := (hT.stored i (.slice (some ⟨blk i, 0, none⟩) a n)).2
      rw [headsL_set, headsL_congr (len' := fun k => if k < i + 1 then a else n) (fun k _ => by
        by_cases hki : k = i
        · subst hki; simp
        · have h3 : (k < i + 1) = (k < i) := by simp; omega
          simp [hki, h3])] at hT4
      have hD4 := hD.kept hg4 (by
        cases hv : (Value.slice A' j c').ownBlock with
        | none => exact .inl rfl
        | some b => right; have := (hD.lt b hv).1; simp; omega)
      have hR4 : ∀ k, k < K + M → RowB (wr.setCell ⟨g, i, none⟩ (.slice (some ⟨blk i, 0, none⟩) a n)) (blk k) (rowL n (Q k)) := fun k hk => (hRW k hk).grown hg4 (by simpa using hbg k hk)
      have hB4 := hBr.setCell (p := ⟨g, i, none⟩) hgB (.slice (some ⟨blk i, 0, none⟩) a n)
      have hk04 := hg4.cell hkr0 (by simpa using hgcb)
      have hk14 := hg4.cell hkr1 (by simpa using hgcb)
      have hz4 : w1.heap.size + 1 ≤ (wr.setCell ⟨g, i, none⟩ (.slice (some ⟨blk i, 0, none⟩) a n)).heap.size := by simp; exact hzr
      by_cases hiK : i < K
      · have hiKi : (i : Int) < (K : Int) := by omega
        have hji : j = i := by have := hj.out; omega
        have hDA := own_below hD4 (below1' _ (.cells #[.slice (some ⟨blk i, 0, none⟩) a n] 22))
        have hzA := Nat.le_trans hz4 (below1' _ (.cells #[.slice (some ⟨blk i, 0, none⟩) a n] 22)).size
        have hbyt : j + 1 ≤ 5864062014634 := by omega
        have HJ := Lib.hid hji
        clear hji
        have hat := at_lit1 (wr.setCell ⟨g, i, none⟩ (.slice (some ⟨blk i, 0, none⟩) a n)) (.slice (some ⟨blk i, 0, none⟩) a n) 22
        rw [show (wr.setCell ⟨g, i, none⟩ (.slice (some ⟨blk i, 0, none⟩) a n)).heap.size = wr.heap.size by simp] at hat
        go_wp2_with (at_builtin; refine app_head rfl (.tmp 55) (.tmp 60) rfl (w1.heap.size + 1) rfl hDA rfl (news := [.slice (some ⟨blk i, 0, none⟩) a n]) rfl hat (by intro u hu; rw [List.mem_singleton] at hu; subst hu; rfl) (by simp) hbyt hzA ?_; intro A5 c5 w5 ho5 hb5 hg5 hc5)
        have hbA := below1' (wr.setCell ⟨g, i, none⟩ (.slice (some ⟨blk i, 0, none⟩) a n)) (.cells #[.slice (some ⟨blk i, 0, none⟩) a n] 22)
        have hTA := own_below hT4 hbA
        have hRA : ∀ k, k < K + M → RowB _ (blk k) (rowL n (Q k)) := fun k hk => (hR4 k hk).below hbA (hR4 k hk).lt
        have hkA0 := (hbA.cell (p := ⟨w1.heap.size, 0, none⟩) (block_lt hk04)).trans hk04
        have hkA1 := (hbA.cell (p := ⟨w1.heap.size, 1, none⟩) (block_lt hk14)).trans hk14
        have hBA := hB4.trans (hbA.mono hB4.size)
        have hT5 := hTA.kept hg5 (by right; intro he; have := (hDA.lt g he.symm).1; omega)
        have hR5 : ∀ k, k < K + M → RowB w5 (blk k) (rowL n (Q k)) := fun k hk => (hRA k hk).grown hg5 (fun he => by have := (hDA.lt (blk k) he.symm).1; have := hlt k hk; omega)
        have hk05 := hg5.cell hkA0 (fun he => by have := (hDA.lt w1.heap.size he.symm).1; omega)
        have hk15 := hg5.cell hkA1 (fun he => by have := (hDA.lt w1.heap.size he.symm).1; omega)
        have hji := HJ.out
        rw [← hji, headsL_snoc (len := fun _ => a)] at ho5
        rw [hji] at ho5
        exact ⟨⟨i + 1, j + 1, A5, c5, by omega, by show j + 1 = min (i + 1) K; omega, by go_num, rfl, hT5, by rw [hji]; exact ho5, hR5, hBA.trans (hb5.mono (by omega)), Nat.le_trans hzA hb5.size, hk05, hk15⟩, by simp [intOf]; omega⟩
      · have hiKi : ¬ ((i : Int) < (K : Int)) := by omega
        go_wp2_with fail
        exact ⟨⟨i + 1, j, A', c', by omega, by have := hj.out; show j = min (i + 1) K; omega, by go_num, rfl, hT4, hD4, hR4, hB4, hz4, hk04, hk14⟩, by simp [intOf]; omega⟩
    · have hiN : i = K + M := by omega
      have hnb : ¬ ((i : Int) < (K : Int) + (M : Int)) := by omega
      have hjK : j = K := by have := hj.out; omega
      rw [headsL_congr (len' := fun _ => a) (fun k hk => by simp; omega)] at hT
      have hL := mat_cut (own_at hT) hRW han (by omega)
      have hDat := mat_cut (own_at hD) (fun k hk => hRW k (by omega)) han (by omega)
      clear hj hiN hT hD hRW
      subst hjK
      go_wp2_with fail
      refine (encode_mat hDat hK1 (by omega) ha1 (by omega) (FoldAt.below hF hBr)).mono ?_
      rintro e w5 ⟨A5, c5, rfl, hX, hb5⟩
      have hBf := hBr.trans (hb5.mono hBr.size)
      go_wp2_with fail
      refine (same_mat hX (hL.below hb5) (hQ _ _) (by omega)).mono ?_
      rintro e w' ⟨rfl, rfl⟩
      go_wp2_with fail
      go_ret
      exact ⟨rfl, hBf⟩

end Go.Proofs.YtibidlgikecelaaDoor
