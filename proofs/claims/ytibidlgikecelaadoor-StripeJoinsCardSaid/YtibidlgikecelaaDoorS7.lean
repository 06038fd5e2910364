/- Contracts: slices.Clip, stripe.Join. -/
import Derived.Test.YtibidlgikecelaaDoorS6
import Derived.Test.YtibidlgikecelaaDoorRD
namespace Go.Proofs.YtibidlgikecelaaDoor
open Go.RowKit
set_option linter.unusedVariables false
set_option linter.unusedSimpArgs false

set_option maxHeartbeats 400000 in
theorem clip_calls {w : World} {A : Option Addr} {n c : Nat} (hn : n ≤ c) (hc : c ≤ 1000000) :
    Calls Tryd.prog 87 #[.slice A n c] w fun e w' => e = .returned (.slice A n n) ∧ w = w' := by
  have hni : (n : Int) ≤ (c : Int) := by omega
  go_enter Tryd.func87, Tryd.ntmps87
  go_wp2_with fail
  go_ret
  exact ⟨rfl, rfl⟩

set_option maxHeartbeats 1000000 in
set_option maxRecDepth 100000 in
theorem join_calls {w : World} {K M N s cS : Nat} {S : Option Addr} {vs : List Value} {LL : List (List B8)} {D : Mx} (hS : Shards w S vs LL N (lenS K s) (mulM K (genM K) D)) (hNK : N = K + M) (hK1 : 1 ≤ K) (hKM : K + M ≤ 255) (hs : s ≤ 400)
    (hp : K ≤ (presL LL N).length) (hF : FoldAt w) :
    Calls Tryd.prog 57 #[.agg #[.int .i64 (K : Int), .int .i64 (M : Int)], .int .i64 (s : Int), .slice S N cS] w
      fun e w' => ∃ A, e = .returned (.tuple #[.slice A s s, .int .i64 0]) ∧ At w' A (bys ((rowL (lenS K s * K) (joinD K (mulM K (genM K) D))).take s)) ∧ Below w.heap.size w w' := by
  have HL := fun (W : World) => Lib.hid (length_calls (w := W) hK1 hKM hs)
  have hn1 := lenS_le hK1 hs
  have hn2 := lenS_pos K s
  have hrm := lenS_room (s := s) hK1
  have HQ : Hid (lenS K s = 8 * (lenS K s / 8)) := lenS_mul K s
  generalize lenS K s / 8 = q at *
  generalize lenS K s = nn at *
  have hnz : ((nn : Int) == 0) = false := by simp; omega
  have hmu : (nn : Int) * (K : Int) = ((nn * K : Nat) : Int) := by simp
  have hmu2 : nn * K ≤ 1000 * 255 := Nat.mul_le_mul hn1 (by omega)
  have HNN : Hid (nn * K = nn * K) := rfl
  generalize hNe : nn * K = NB at hmu hmu2 hrm
  have HN := Lib.hid hNe.symm
  clear hNe
  have hKMI : ((N : Int) != (K : Int) + (M : Int)) = false := by simp; omega
  have hb1 := below1' w (.cells #[.int .i64 (K : Int), .int .i64 (M : Int)] 38)
  have hk0 : (w.alloc (.cells #[.int .i64 (K : Int), .int .i64 (M : Int)] 38)).cell? ⟨w.heap.size, 0, none⟩ = some (.int .i64 (K : Int)) := cell_of_row _ _ 0 _ _ (0, 0) (heap_alloc_new w _)
  have hk1 : (w.alloc (.cells #[.int .i64 (K : Int), .int .i64 (M : Int)] 38)).cell? ⟨w.heap.size, 1, none⟩ = some (.int .i64 (M : Int)) := cell_of_row _ _ 1 _ _ (0, 0) (heap_alloc_new w _)
  have HNK := Lib.hid hNK
  clear hNK
  go_enter Tryd.func57, Tryd.ntmps57
  go_wp2_with fail
  generalize w.alloc (.cells #[.int .i64 (K : Int), .int .i64 (M : Int)] 38) = w1 at *
  refine (HL _).out.mono ?_
  rintro e w2 ⟨rfl, hb2⟩
  have hB2 := hb1.trans (hb2.mono hb1.size)
  have hbn := below1' w2 (.cells #[.int .i64 (nn : Int)] 3)
  have hnc : (w2.alloc (.cells #[.int .i64 (nn : Int)] 3)).cell? ⟨w2.heap.size, 0, none⟩ = some (.int .i64 (nn : Int)) := cell_of_row _ _ 0 _ _ (0, 0) (heap_alloc_new w2 _)
  have hB3 := hB2.trans (hbn.mono hB2.size)
  have hk03 := (hbn.cell (p := ⟨w.heap.size, 0, none⟩) (by have := (hb2.cell (p := ⟨w.heap.size, 0, none⟩) (block_lt hk0)).trans hk0; exact block_lt this)).trans ((hb2.cell (p := ⟨w.heap.size, 0, none⟩) (block_lt hk0)).trans hk0)
  have hk13 := (hbn.cell (p := ⟨w.heap.size, 1, none⟩) (by have := (hb2.cell (p := ⟨w.heap.size, 1, none⟩) (block_lt hk1)).trans hk1; exact block_lt this)).trans ((hb2.cell (p := ⟨w.heap.size, 1, none⟩) (block_lt hk1)).trans hk1)
  have hS3 := hS.below (hB2.trans (hbn.mono hB2.size) |>.mono (Nat.le_refl _))
  have hF3 := FoldAt.below hF hB3
  have HJ1 := Lib.hid (join1_has (w := w2.alloc (.cells #[.int .i64 (nn : Int)] 3)) (n := N) (c := cS) (p := .pointer (some ⟨w2.heap.size, 0, none⟩)) hS3.at' (by rw [hS3.tx.1]; exact hS3.len) (by have := HNK.out; omega) (fun i v hv => by
    have hi : i < LL.length := by rw [← hS3.tx.1]; exact (List.getElem?_eq_some_iff.1 hv).1
    have hl : LL[i]? = some LL[i] := List.getElem?_eq_getElem hi
    obtain ⟨X, cx, hvf⟩ := (hS3.tx.2 i v _ hv hl).form
    rw [hvf]
    refine join1_calls hnc ?_
    rcases hS3.row i _ hl with h | h
    · left; rw [h]; rfl
    · right; rw [h]; simp))
  have HD := Lib.hid (decode_calls (cS := cS) hS3 HNK.out hK1 hKM (by omega) hn1 hp hF3)
  clear hk0 hk1 hb1 hb2 hbn hB2 hS hS3 HL
  go_wp2_with fail
  generalize w2.alloc (.cells #[.int .i64 (nn : Int)] 3) = w3 at *
  refine HJ1.out.mono ?_
  rintro e w' ⟨rfl, rfl⟩
  go_wp2_with fail
  refine HD.out.mono ?_
  rintro e w4 ⟨A4, c4, blk, rfl, hG4, hb4⟩
  obtain ⟨g, rfl, hg3, hc0, hbg, _⟩ := hG4.cell (i := 0) (by have := HNK.out; omega)
  have hle4 := hG4.le
  have hnc4 := (hb4.cell (p := ⟨w2.heap.size, 0, none⟩) (block_lt hnc)).trans hnc
  have hk04 := (hb4.cell (p := ⟨w.heap.size, 0, none⟩) (block_lt hk03)).trans hk03
  have hk14 := (hb4.cell (p := ⟨w.heap.size, 1, none⟩) (block_lt hk13)).trans hk13
  have hB4 := hB3.trans (hb4.mono hB3.size)
  have hba := below1' w4 (.cells #[.slice (some ⟨g, 0, none⟩) N c4] 24)
  have hpa : (w4.alloc (.cells #[.slice (some ⟨g, 0, none⟩) N c4] 24)).cell? ⟨w4.heap.size, 0, none⟩ = some (.slice (some ⟨g, 0, none⟩) N c4) := cell_of_row _ _ 0 _ _ (0, 0) (heap_alloc_new w4 _)
  have hnc5 := (hba.cell (p := ⟨w2.heap.size, 0, none⟩) (block_lt hnc4)).trans hnc4
  have hk05 := (hba.cell (p := ⟨w.heap.size, 0, none⟩) (block_lt hk04)).trans hk04
  have hk15 := (hba.cell (p := ⟨w.heap.size, 1, none⟩) (block_lt hk14)).trans hk14
  have hG5 := hG4.below hba
  have hB5 := hB4.trans (hba.mono hB4.size)
  clear hnc hk03 hk13 hB3 hF3 HJ1 HD hG4 hb4 hc0 hnc4 hk04 hk14 hB4 hba
  have hs5 : (w4.alloc (.cells #[.slice (some ⟨g, 0, none⟩) N c4] 24)).heap.size = w4.heap.size + 1 := by simp
  have HS5 := Lib.hid hs5
  clear hs5
  go_wp2_with (refine make_row rfl (.tmp 46) (.tmp 46) rfl NB rfl rfl rfl rfl (by omega) ?_; intro w6 hr6 hb6 hs6; generalize w4.alloc (.cells #[.slice (some ⟨g, 0, none⟩) N c4] 24) = w5 at *; have hz5 : ∀ {b i : Nat} {v : Value}, w5.cell? ⟨b, i, none⟩ = some v → b < w5.heap.size := fun h => block_lt h; have hbf := below1' w6 (.cells #[.slice (some ⟨w5.heap.size, 0, none⟩) NB NB] 22); have hbg6 := hb6.trans (hbf.mono (by omega)); have hk06 := (hbg6.cell (p := ⟨w.heap.size, 0, none⟩) (hz5 hk05)).trans hk05; have hk16 := (hbg6.cell (p := ⟨w.heap.size, 1, none⟩) (hz5 hk15)).trans hk15; have hnc6 := (hbg6.cell (p := ⟨w2.heap.size, 0, none⟩) (hz5 hnc5)).trans hnc5; have hpa6 := (hbg6.cell (p := ⟨w4.heap.size, 0, none⟩) (hz5 hpa)).trans hpa; have hpb := cell_of_row _ _ 0 _ _ (0, 0) (heap_alloc_new w6 (.cells #[.slice (some ⟨w5.heap.size, 0, none⟩) NB NB] 22)); replace hs6 := Lib.hid hs6)
  generalize w6.alloc (.cells #[.slice (some ⟨w5.heap.size, 0, none⟩) NB NB] 22) = w7 at *
  have hpb7 : w7.cell? ⟨w6.heap.size, 0, none⟩ = some (.slice (some ⟨w5.heap.size, 0, none⟩) NB NB) := hpb
  have hR7 := hr6.below hbf hr6.lt
  have hG7 := hG5.below hbg6
  have hB7 := hB5.trans (hbg6.mono hB5.size)
  have hsz5 := hB5.size
  have hg5 : g < w5.heap.size := by
    obtain ⟨_, he, _, hc, _, _⟩ := hG5.cell (i := 0) (by have := HNK.out; omega)
    cases he
    exact block_lt hc
  have hbl5 : ∀ k, k < N → blk k < w5.heap.size := fun k hk => (hG5.row k hk).lt
  have hKN : K ≤ N := by have := HNK.out; omega
  have hN255 : N ≤ 255 := by have := HNK.out; omega
  have HU := Lib.hid (unitsJoin_calls (w := w7) (M := M) (R := N) (cA := c4) (g := g) (pa := w4.heap.size) (nn := nn) (blk := blk) hpb7 hR7 hpa6 (fun k hk => by
      obtain ⟨_, he, _, hc, _, _⟩ := hG7.cell (i := k) (by omega)
      cases he
      exact hc) (fun k hk => hG7.row k (by omega)) (by have := hs6.out; omega) (by have := HS5.out; omega) (by omega) (fun k hk => by have := hbl5 k (by omega); omega) HQ hn1 hKN hN255 HN)
  clear hpb hR7 hr6 hb6 hbf hG5 hG7 hbg6 hpa hnc5 hk05 hk15 hB5
  refine HU.out.mono ?_
  rintro e w8 ⟨rfl, hg8, hr8⟩
  have hpb8 := hg8.cell hpb7 (by have := hs6.out; simp; omega)
  have hB8 := hB7.trans (below_of_grown hg8 hB7.size (by intro t ht; cases ht; exact hsz5))
  have hsN : (s : Int) ≤ (NB : Int) := by omega
  have HCL := fun (W : World) => Lib.hid (clip_calls (w := W) (A := some ⟨w5.heap.size, 0, none⟩) (n := s) (c := NB) hrm (by omega))
  clear HU hg8 hB7 hk06 hk16 hnc6 hpa6 hpb7
  go_wp2_with fail
  refine (HCL _).out.mono ?_
  rintro e w' ⟨rfl, rfl⟩
  go_wp2_with fail
  go_ret2
  exact ⟨_, rfl, by have := hr8.at.take s; simpa [bys, List.map_take] using this, hB8⟩

end Go.Proofs.YtibidlgikecelaaDoor
