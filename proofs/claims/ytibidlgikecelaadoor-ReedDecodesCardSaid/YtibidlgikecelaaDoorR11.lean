/- Contracts: reed.Decode of too few shards, reed.Repair. -/
import Derived.Test.YtibidlgikecelaaDoorR10
namespace Go.Proofs.YtibidlgikecelaaDoor
open Go.RowKit
set_option linter.unusedVariables false
set_option linter.unusedSimpArgs false

set_option maxHeartbeats 1000000 in
set_option maxRecDepth 100000 in
theorem decode_few {w : World} {K M N c cS : Nat} {S : Option Addr} {vs : List Value} {LL : List (List B8)} {Q : Mx} (hS : Shards w S vs LL N c Q) (hNK : N = K + M) (hK1 : 1 ≤ K) (hKM : K + M ≤ 255) (hc : 0 < c)
    (hp : (presL LL N).length < K) :
    Calls Tryd.prog 53 #[.agg #[.int .i64 (K : Int), .int .i64 (M : Int)], .slice S N cS] w (RetE w 30) := by
  obtain ⟨bS, oS, rfl⟩ := some_of_at hS.at' (by rw [hS.tx.1, ← hS.len]; omega)
  have hb1 := below1' w (.cells #[.int .i64 (K : Int), .int .i64 (M : Int)] 38)
  have hk0 : (w.alloc (.cells #[.int .i64 (K : Int), .int .i64 (M : Int)] 38)).cell? ⟨w.heap.size, 0, none⟩ = some (.int .i64 (K : Int)) := cell_of_row _ _ 0 _ _ (0, 0) (heap_alloc_new w _)
  have hk1 : (w.alloc (.cells #[.int .i64 (K : Int), .int .i64 (M : Int)] 38)).cell? ⟨w.heap.size, 1, none⟩ = some (.int .i64 (M : Int)) := cell_of_row _ _ 1 _ _ (0, 0) (heap_alloc_new w _)
  have hs1 : (w.alloc (.cells #[.int .i64 (K : Int), .int .i64 (M : Int)] 38)).heap.size = w.heap.size + 1 := by simp
  have HNK := Lib.hid hNK
  clear hNK
  go_enter Tryd.func53, Tryd.ntmps53
  go_wp2_with fail
  generalize w.alloc (.cells #[.int .i64 (K : Int), .int .i64 (M : Int)] 38) = wa at *
  have hb2 := below1' wa (.cells #[.slice (some ⟨bS, oS, none⟩) N cS] 24)
  have hk0b := (hb2.cell (p := ⟨w.heap.size, 0, none⟩) (by simp; omega)).trans hk0
  have hk1b := (hb2.cell (p := ⟨w.heap.size, 1, none⟩) (by simp; omega)).trans hk1
  have hB2 := hb1.trans (hb2.mono hb1.size)
  have hs2 : (wa.alloc (.cells #[.slice (some ⟨bS, oS, none⟩) N cS] 24)).heap.size = w.heap.size + 2 := by simp; omega
  generalize wa.alloc (.cells #[.slice (some ⟨bS, oS, none⟩) N cS] 24) = wb at *
  clear hk0 hk1 hb1 hb2
  refine (some_calls (c := c) (cS := cS) (hS.at'.below hB2) (hS.tx.below hB2) hS.len HNK.out hK1 hKM hS.all hc).mono ?_
  generalize presL LL N = pl at *
  rintro e w3 ⟨Al, cl, rfl, hAl, hlc, hnil, hb3⟩
  have hB3 := hB2.trans (hb3.mono hB2.size)
  have hk03 := (hb3.cell (p := ⟨w.heap.size, 0, none⟩) (by simp; omega)).trans hk0b
  have hfew : (pl.length : Int) < (K : Int) := by omega
  clear hk0b hk1b
  go_wp2_with fail
  go_ret2
  exact ⟨rfl, hB3⟩

set_option maxHeartbeats 1000000 in
set_option maxRecDepth 100000 in
theorem repair_few {w : World} {K M N c cS i : Nat} {S : Option Addr} {vs : List Value} {LL : List (List B8)} {Q : Mx} (hS : Shards w S vs LL N c Q) (hNK : N = K + M) (hK1 : 1 ≤ K) (hKM : K + M ≤ 255) (hc : 0 < c)
    (hp : (presL LL N).length < K) (hi : i < K + M) :
    Calls Tryd.prog 52 #[.agg #[.int .i64 (K : Int), .int .i64 (M : Int)], .slice S N cS, .int .i64 (i : Int)] w (RetE w 30) := by
  have hb1 := below1' w (.cells #[.int .i64 (K : Int), .int .i64 (M : Int)] 38)
  have hk0 : (w.alloc (.cells #[.int .i64 (K : Int), .int .i64 (M : Int)] 38)).cell? ⟨w.heap.size, 0, none⟩ = some (.int .i64 (K : Int)) := cell_of_row _ _ 0 _ _ (0, 0) (heap_alloc_new w _)
  have hk1 : (w.alloc (.cells #[.int .i64 (K : Int), .int .i64 (M : Int)] 38)).cell? ⟨w.heap.size, 1, none⟩ = some (.int .i64 (M : Int)) := cell_of_row _ _ 1 _ _ (0, 0) (heap_alloc_new w _)
  have hs1 : (w.alloc (.cells #[.int .i64 (K : Int), .int .i64 (M : Int)] 38)).heap.size = w.heap.size + 1 := by simp
  have HNK := Lib.hid hNK
  have d1 : decide ((i : Int) < (0 : Int)) = false := decide_eq_false (by omega)
  have d2 : decide ((K : Int) + (M : Int) ≤ (i : Int)) = false := decide_eq_false (by omega)
  clear hNK
  go_enter Tryd.func52, Tryd.ntmps52
  go_wp2_with fail
  generalize w.alloc (.cells #[.int .i64 (K : Int), .int .i64 (M : Int)] 38) = wa at *
  refine (some_calls (c := c) (cS := cS) (hS.at'.below hb1) (hS.tx.below hb1) hS.len HNK.out hK1 hKM hS.all hc).mono ?_
  rintro e w3 ⟨Al, cl, rfl, hAl, hlc, hnil, hb3⟩
  have hB3 := hb1.trans (hb3.mono hb1.size)
  have hk03 := (hb3.cell (p := ⟨w.heap.size, 0, none⟩) (by simp; omega)).trans hk0
  have hk13 := (hb3.cell (p := ⟨w.heap.size, 1, none⟩) (by simp; omega)).trans hk1
  have HD := Lib.hid (decode_few (cS := cS) (hS.below hB3) HNK.out hK1 hKM hc hp)
  clear hk0 hk1 hAl hlc
  generalize presL LL N = pl at *
  go_wp2_with fail
  refine HD.out.mono ?_
  rintro e w4 ⟨rfl, hb4⟩
  go_wp2_with fail
  go_ret2
  exact ⟨rfl, hB3.trans (hb4.mono hB3.size)⟩

/-- A row, and OK. -/
def RetRowO (w : World) (c : Nat) (f : Nat → B8) (e : Ending) (w' : World) : Prop :=
  ∃ b, e = .returned (.tuple #[.slice (some ⟨b, 0, none⟩) c c, .int .i64 0]) ∧ RowB w' b (rowL c f) ∧ Below w.heap.size w w'
set_option maxHeartbeats 1000000 in
set_option maxRecDepth 100000 in
theorem repair_gen {w : World} {K M N c cS i : Nat} {S : Option Addr} {vs : List Value} {LL : List (List B8)} {Q : Mx} (hS : Shards w S vs LL N c Q) (hNK : N = K + M) (hK1 : 1 ≤ K) (hKM : K + M ≤ 255) (hc : 0 < c) (hc2 : c ≤ 1000)
    (hp : K ≤ (presL LL N).length) (hi : i < K + M) (hF : FoldAt w) :
    Calls Tryd.prog 52 #[.agg #[.int .i64 (K : Int), .int .i64 (M : Int)], .slice S N cS, .int .i64 (i : Int)] w (RetRowO w c (mulM K (genM K) (decD K ((presL LL N).take K) Q) i)) := by
  have hb1 := below1' w (.cells #[.int .i64 (K : Int), .int .i64 (M : Int)] 38)
  have hk0 : (w.alloc (.cells #[.int .i64 (K : Int), .int .i64 (M : Int)] 38)).cell? ⟨w.heap.size, 0, none⟩ = some (.int .i64 (K : Int)) := cell_of_row _ _ 0 _ _ (0, 0) (heap_alloc_new w _)
  have hk1 : (w.alloc (.cells #[.int .i64 (K : Int), .int .i64 (M : Int)] 38)).cell? ⟨w.heap.size, 1, none⟩ = some (.int .i64 (M : Int)) := cell_of_row _ _ 1 _ _ (0, 0) (heap_alloc_new w _)
  have hs1 : (w.alloc (.cells #[.int .i64 (K : Int), .int .i64 (M : Int)] 38)).heap.size = w.heap.size + 1 := by simp
  have HNK := Lib.hid hNK
  have d1 : decide ((i : Int) < (0 : Int)) = false := decide_eq_false (by omega)
  have d2 : decide ((K : Int) + (M : Int) ≤ (i : Int)) = false := decide_eq_false (by omega)
  have hiN : i < N := by omega
  have hiNi : (i : Int) < (N : Int) := by omega
  clear hNK
  go_enter Tryd.func52, Tryd.ntmps52
  go_wp2_with fail
  generalize w.alloc (.cells #[.int .i64 (K : Int), .int .i64 (M : Int)] 38) = wa at *
  refine (some_calls (c := c) (cS := cS) (hS.at'.below hb1) (hS.tx.below hb1) hS.len HNK.out hK1 hKM hS.all hc).mono ?_
  rintro e w3 ⟨Al, cl, rfl, hAl, hlc, hnil, hb3⟩
  have hB3 := hb1.trans (hb3.mono hb1.size)
  have hk03 := (hb3.cell (p := ⟨w.heap.size, 0, none⟩) (by simp; omega)).trans hk0
  have hk13 := (hb3.cell (p := ⟨w.heap.size, 1, none⟩) (by simp; omega)).trans hk1
  have HD := Lib.hid (decode_gen (cS := cS) (hS.below hB3) HNK.out hK1 hKM hc hc2 hp (FoldAt.below hF hB3))
  clear hk0 hk1 hAl hlc
  generalize presL LL N = pl at *
  go_wp2_with fail
  refine HD.out.mono ?_
  rintro e w4 ⟨A4, c4, b4, rfl, hG, hb4⟩
  obtain ⟨g4, rfl, _, hci, _, _⟩ := hG.cell hiN
  have hrow := hG.row i hiN
  clear HD
  go_wp2_with fail
  go_ret2
  exact ⟨_, rfl, hrow, hB3.trans (hb4.mono hB3.size)⟩

theorem repair_calls {w : World} {K M N c cS i : Nat} {S : Option Addr} {vs : List Value} {LL : List (List B8)} {D : Mx} (hS : Shards w S vs LL N c (mulM K (genM K) D)) (hNK : N = K + M) (hK1 : 1 ≤ K) (hKM : K + M ≤ 255) (hc : 0 < c) (hc2 : c ≤ 1000)
    (hp : K ≤ (presL LL N).length) (hi : i < K + M) (hF : FoldAt w) :
    Calls Tryd.prog 52 #[.agg #[.int .i64 (K : Int), .int .i64 (M : Int)], .slice S N cS, .int .i64 (i : Int)] w (RetRowO w c (mulM K (genM K) D i)) := by
  refine (repair_gen hS hNK hK1 hKM hc hc2 hp hi hF).mono ?_
  rintro e w' ⟨b, h1, h2, h3⟩
  refine ⟨b, h1, ?_, h3⟩
  rwa [rowL_congr (fun j hj => decD_word (c := c) (D := D) hNK hKM hp i j (by omega) hj)] at h2

end Go.Proofs.YtibidlgikecelaaDoor
