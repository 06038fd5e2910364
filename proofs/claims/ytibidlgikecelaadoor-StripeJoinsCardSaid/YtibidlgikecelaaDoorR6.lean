/- Contract: reed.some, where all shards that are there are of one length. -/
import Derived.Test.YtibidlgikecelaaDoorR5
import Derived.Test.YtibidlgikecelaaDoorW21
namespace Go.Proofs.YtibidlgikecelaaDoor
open Go.RowKit
set_option linter.unusedVariables false
set_option linter.unusedSimpArgs false

/-- The places of the texts that are not empty, of the first i. -/
def presL (LL : List (List B8)) (i : Nat) : List Nat := (List.range i).filter fun k => decide (LL.getD k [] ≠ [])
theorem presL_take {LL : List (List B8)} {i : Nat} {l : List B8} (h : LL[i]? = some l) (hl : l ≠ []) : presL LL (i + 1) = presL LL i ++ [i] := by
  unfold presL
  rw [List.range_succ, List.filter_append]
  simp [List.getD_eq_getElem?_getD, h, hl]
theorem presL_skip {LL : List (List B8)} {i : Nat} {l : List B8} (h : LL[i]? = some l) (hl : l = []) : presL LL (i + 1) = presL LL i := by
  unfold presL
  rw [List.range_succ, List.filter_append]
  simp [List.getD_eq_getElem?_getD, h, hl]
theorem presL_mem {LL : List (List B8)} {i k : Nat} (h : k ∈ presL LL i) : k < i ∧ LL.getD k [] ≠ [] := by
  unfold presL at h
  rw [List.mem_filter] at h
  exact ⟨List.mem_range.1 h.1, by simpa using h.2⟩
theorem presL_nd (LL : List (List B8)) (i : Nat) : (presL LL i).Pairwise (· ≠ ·) := by
  unfold presL
  exact (List.Pairwise.filter _ List.nodup_range)
theorem presL_le (LL : List (List B8)) (i : Nat) : (presL LL i).length ≤ i := by
  unfold presL
  refine Nat.le_trans (List.length_filter_le _ _) (by simp)

/-- A call answers places, and OK. -/
def RetSome (w : World) (l : List Nat) (e : Ending) (w' : World) : Prop :=
  ∃ A cap, e = .returned (.tuple #[.slice A l.length cap, .int .i64 0]) ∧ At w' A (ints (asInts l)) ∧ l.length ≤ cap ∧ (A = none → cap = 0) ∧ Below w.heap.size w w'

theorem at_nat {w : World} {b off : Nat} {l : List Nat} {i x : Nat} (h : At w (some ⟨b, off, none⟩) (ints (asInts l))) (hx : l[i]? = some x) : w.cell? ⟨b, off + i, none⟩ = some (.int .i64 (x : Int)) := by
  obtain ⟨b', o', he, hc⟩ := h i (.int .i64 (x : Int)) (by simp [ints, asInts, hx])
  cases he
  exact hc

set_option maxHeartbeats 800000 in
set_option maxRecDepth 100000 in
theorem some1_calls {w : World} {ts tl bS oS n cS bl ol m cl i x0 : Nat} {vs : List Value} {LL : List (List B8)} {l : List Nat} {r0 r1 : List B8}
    (hts : w.cell? ⟨ts, 0, none⟩ = some (.slice (some ⟨bS, oS, none⟩) n cS)) (htl : w.cell? ⟨tl, 0, none⟩ = some (.slice (some ⟨bl, ol, none⟩) m cl))
    (hS : At w (some ⟨bS, oS, none⟩) vs) (hLS : Texts w vs LL) (hl : At w (some ⟨bl, ol, none⟩) (ints (asInts l))) (hn : n = LL.length) (hm : 0 < m)
    (h0 : l[0]? = some x0) (hx0 : LL[x0]? = some r0) (hi : LL[i]? = some r1) (hr : r0.length = r1.length) :
    Calls Tryd.prog 96 #[.int .i64 (i : Int), .pointer (some ⟨ts, 0, none⟩), .pointer (some ⟨tl, 0, none⟩)] w fun e w' => e = .returned (.bool false) ∧ Below w.heap.size w w' := by
  have hc0 := at_nat hl h0
  rw [Nat.add_zero] at hc0
  obtain ⟨X0, cx0, hh0, _, _, _⟩ := head_at hS hLS hx0
  obtain ⟨X1, cx1, hh1, _, _, _⟩ := head_at hS hLS hi
  have hxn : (x0 : Int) < (n : Int) := by have := (List.getElem?_eq_some_iff.1 hx0).1; omega
  have hin : (i : Int) < (n : Int) := by have := (List.getElem?_eq_some_iff.1 hi).1; omega
  have hmi : (0 : Int) < (m : Int) := by omega
  rw [hr] at hh0
  have hne : ((r1.length : Int) != (r1.length : Int)) = false := by simp
  clear hr hn hx0 hi h0
  go_enter Tryd.func96, Tryd.ntmps96
  go_wp2_with fail
  go_quiet (fail)
  go_wp2_with fail
  go_ret
  exact ⟨rfl, belowN _⟩

set_option maxHeartbeats 400000 in
set_option maxRecDepth 100000 in
theorem some1_idx {w : World} {Al : Option Addr} {m cl : Nat} {p q : Value} {l : List Nat} (hl : At w Al (ints (asInts l))) (hm : m = l.length) (hmax : l.length ≤ 1000)
    (HF : ∀ (wq : World), Below w.heap.size w wq → ∀ (j x : Nat), l[j]? = some x → Calls Tryd.prog 96 #[.int .i64 (x : Int), p, q] wq fun e w' => e = .returned (.bool false) ∧ Below wq.heap.size wq w') :
    Calls Tryd.prog 92 #[.slice Al m cl, .func (.func 96) #[] #[p, q]] w fun e w' => e = .returned (.int .i64 (-1)) ∧ Below w.heap.size w w' := by
  subst hm
  go_enter Tryd.func92, Tryd.ntmps92
  go_wp2_with fail
  go_loopw [8] (fun s8 wr => ∃ j : Nat, j ≤ l.length ∧ s8 = .int .i64 ((j : Nat) : Int) ∧ Below w.heap.size w wr) (fun s8 _ => l.length - (intOf s8).toNat)
  case atStart => exact ⟨0, by omega, rfl, Below.refl _ _⟩
  case round =>
    obtain ⟨j, hj, rfl, hb⟩ := hrel
    by_cases hjl : j < l.length
    · have hx : l[j]? = some l[j] := List.getElem?_eq_getElem hjl
      obtain ⟨b, off, rfl⟩ := some_of_at hl (by simp; omega)
      have hc := at_nat (hl.below hb) hx
      have hC := Lib.hid (HF wr hb j _ hx)
      have hji : (j : Int) < (l.length : Int) := by omega
      generalize l[j] = x at *
      clear hx
      go_wp2_with fail
      refine hC.out.mono ?_
      rintro e w' ⟨rfl, hb'⟩
      go_wp2_with fail
      exact ⟨⟨j + 1, by omega, by go_num, hb.trans (hb'.mono hb.size)⟩, by simp [intOf]; omega⟩
    · obtain rfl : j = l.length := by omega
      go_wp2_with fail
      go_ret
      exact ⟨rfl, hb⟩
set_option maxHeartbeats 400000 in
set_option maxRecDepth 100000 in
theorem some1_has {w : World} {Al : Option Addr} {m cl : Nat} {p q : Value} {l : List Nat} (hl : At w Al (ints (asInts l))) (hm : m = l.length) (hmax : l.length ≤ 1000)
    (HF : ∀ (wq : World), Below w.heap.size w wq → ∀ (j x : Nat), l[j]? = some x → Calls Tryd.prog 96 #[.int .i64 (x : Int), p, q] wq fun e w' => e = .returned (.bool false) ∧ Below wq.heap.size wq w') :
    Calls Tryd.prog 68 #[.slice Al m cl, .func (.func 96) #[] #[p, q]] w (RetV w (.bool false)) := by
  subst hm
  have HC0 := some1_idx (cl := cl) hl rfl hmax HF
  obtain ⟨r, hr⟩ : ∃ r : Int, -1 = r := ⟨_, rfl⟩
  rw [hr] at HC0
  have HC := Lib.hid HC0
  have HR := Lib.hid hr
  clear HF HC0 hr
  go_enter Tryd.func68, Tryd.ntmps68
  go_wp2_with fail
  refine HC.out.mono ?_
  rintro e w' ⟨rfl, hb⟩
  go_wp2_with fail
  go_ret
  refine ⟨ret_bool ?_, hb⟩
  rw [← HR.out]
  rfl

set_option maxHeartbeats 1000000 in
set_option maxRecDepth 100000 in
theorem some_calls {w : World} {K M N c cS : Nat} {S : Option Addr} {vs : List Value} {LL : List (List B8)} (hS : At w S vs) (hLS : Texts w vs LL) (hN : N = LL.length) (hNK : N = K + M) (hK : 1 ≤ K) (hKM : K + M ≤ 255)
    (hall : ∀ l, l ∈ LL → l = [] ∨ l.length = c) (hc : 0 < c) :
    Calls Tryd.prog 79 #[.agg #[.int .i64 (K : Int), .int .i64 (M : Int)], .slice S N cS] w (RetSome w (presL LL N)) := by
  obtain ⟨bS, oS, rfl⟩ := some_of_at hS (by rw [hLS.1]; omega)
  have hNi : (N : Int) = (K : Int) + (M : Int) := by omega
  have hnn : ((N : Int) != (K : Int) + (M : Int)) = false := by simp; omega
  have hb1 := below1' w (.cells #[.int .i64 (K : Int), .int .i64 (M : Int)] 38)
  have hk0 : (w.alloc (.cells #[.int .i64 (K : Int), .int .i64 (M : Int)] 38)).cell? ⟨w.heap.size, 0, none⟩ = some (.int .i64 (K : Int)) := cell_of_row _ _ 0 _ _ (0, 0) (heap_alloc_new w _)
  have hk1 : (w.alloc (.cells #[.int .i64 (K : Int), .int .i64 (M : Int)] 38)).cell? ⟨w.heap.size, 1, none⟩ = some (.int .i64 (M : Int)) := cell_of_row _ _ 1 _ _ (0, 0) (heap_alloc_new w _)
  have hs1 : (w.alloc (.cells #[.int .i64 (K : Int), .int .i64 (M : Int)] 38)).heap.size = w.heap.size + 1 := by simp
  have HNI := Lib.hid hNi
  have HNL := Lib.hid hN
  have HNK := Lib.hid hNK
  have hvs := Lib.hid hLS.1
  have hN255 : N ≤ 255 := by omega
  have hNN := Lib.hid hNi
  clear hNi hN hNK
  go_enter Tryd.func79, Tryd.ntmps79
  go_wp2_with fail
  generalize w.alloc (.cells #[.int .i64 (K : Int), .int .i64 (M : Int)] 38) = wa at *
  have hb2 := below1' wa (.cells #[.slice (some ⟨bS, oS, none⟩) N cS] 24)
  have hbox := box_cell wa (.slice (some ⟨bS, oS, none⟩) N cS) 24
  have hk0b := (hb2.cell (p := ⟨w.heap.size, 0, none⟩) (by simp; omega)).trans hk0
  have hk1b := (hb2.cell (p := ⟨w.heap.size, 1, none⟩) (by simp; omega)).trans hk1
  have hB2 := hb1.trans (hb2.mono hb1.size)
  have hs2 : (wa.alloc (.cells #[.slice (some ⟨bS, oS, none⟩) N cS] 24)).heap.size = w.heap.size + 2 := by simp; omega
  rw [hs1] at hbox
  generalize wa.alloc (.cells #[.slice (some ⟨bS, oS, none⟩) N cS] 24) = wb at *
  clear hk0 hk1 hb1 hb2
  refine (can_calls hK hKM).mono ?_
  rintro e w3 ⟨rfl, hb3⟩
  have hB3 := hB2.trans (hb3.mono hB2.size)
  have hk03 := (hb3.cell (p := ⟨w.heap.size, 0, none⟩) (by simp; omega)).trans hk0b
  have hk13 := (hb3.cell (p := ⟨w.heap.size, 1, none⟩) (by simp; omega)).trans hk1b
  have hbox3 := (hb3.cell (p := ⟨w.heap.size + 1, 0, none⟩) (by simp; omega)).trans hbox
  have hz3 := hb3.size
  clear hk0b hk1b hbox
  have hba := below1' w3 (.cells #[.slice none 0 0] 34)
  have hla := heap_alloc_new w3 (.cells #[.slice none 0 0] 34)
  have hsa : (w3.alloc (.cells #[.slice none 0 0] 34)).heap.size = w3.heap.size + 1 := by simp
  have hboxa := (hba.cell (p := ⟨w.heap.size + 1, 0, none⟩) (by simp; omega)).trans hbox3
  have hBa := hB3.trans (hba.mono hB3.size)
  go_wp2_with fail
  generalize w3.alloc (.cells #[.slice none 0 0] 34) = w4 at *
  have HLA := Lib.hid hla
  clear hla
  go_loopw [24] (fun s wr => ∃ (i : Nat) (l : List Nat) (A' : Option Addr) (c' : Nat), i ≤ N ∧ s = .int .i64 ((i : Nat) : Int) ∧ Hid (l = presL LL i) ∧ Hid (wr.heap[w3.heap.size]? = some (.cells #[.slice A' l.length c'] 34 (0, 0))) ∧
    wr.ownsRow (w3.heap.size + 1) 3 1 (.slice A' l.length c') l.length (ints (asInts l)) ∧ Below w3.heap.size w4 wr) (fun s _ => N - (intOf s).toNat)
  case atStart => exact ⟨0, [], none, 0, by omega, rfl, rfl, HLA.out, World.ownsRow_nil _ _ _ _, Below.refl _ _⟩
  case round =>
    obtain ⟨i, l, A', c', hi, rfl, hl, hh, ho, hb⟩ := hrel
    have hBw := hBa.trans (hb.mono hB3.size)
    have hzr := hb.size
    have hlen : l.length ≤ 255 := by
      have := presL_le LL i
      rw [← hl.out] at this
      omega
    by_cases hin : i < N
    · have hii : (i : Int) < (N : Int) := by omega
      have hit : i < LL.length := by rw [← HNL.out]; exact hin
      have hx : LL[i]? = some LL[i] := List.getElem?_eq_getElem hit
      obtain ⟨X, cx, hcx, _, _, _⟩ := head_at hS hLS hx
      have hbS := (block_lt hcx)
      have hcxw := (hBw.cell (p := ⟨bS, oS + i, none⟩) hbS).trans hcx
      generalize LL[i] = r at *
      by_cases hr : r = []
      · subst hr
        have HS := Lib.hid (presL_skip hx rfl)
        clear hx hcx
        go_wp2_with fail
        exact ⟨⟨i + 1, l, A', c', by omega, by go_num, hl.out.trans HS.out.symm, hh, ho, hb⟩, by simp [intOf]; omega⟩
      · have hrl : 0 < r.length := List.length_pos_iff.2 hr
        have hrli : (0 : Int) < (r.length : Int) := by omega
        have HS := Lib.hid (presL_take hx hr)
        have hcl := cell_of_row wr w3.heap.size 0 _ _ (0, 0) hh.out
        simp at hcl
        have ho2 := own_below ho (below1' wr (.cells #[.int .i64 (i : Int)] 3))
        have hbyt : (l.length + 1) * 8 ≤ 140737488355328 := by omega
        have hzA : w3.heap.size + 1 ≤ (wr.alloc (.cells #[.int .i64 (i : Int)] 3)).heap.size := by simp; omega
        clear hx hcx
        go_wp2_with (at_builtin; refine app_ints rfl (.tmp 32) (.tmp 34) rfl (w3.heap.size + 1) rfl ho2 rfl (news := [(i : Int)]) rfl (by exact at_new _ _ _ _) (by simp) hbyt hzA ?_; intro A5 c5 w5 ho5 hb5 hg5 hc5; have hh5 := (hg5.1.block w3.heap.size (by omega) (fun he => by have := (ho2.lt w3.heap.size he.symm).1; omega)).trans ((Below.heap_alloc _ _ _ (by omega)).trans hh.out); have hcl5 := cell_of_row w5 w3.heap.size 0 _ _ (0, 0) hh5; simp at hcl5; have hfl5 := frozen_of_row w5 w3.heap.size 0 _ _ hh5; replace hh5 := Lib.hid hh5)
        clear hg5
        have hset := heap_setCell_same w5 w3.heap.size 0 _ _ (.slice A5 (l.length + 1) c5) hh5.out
        have hgs := grown_set w5 w3.heap.size 0 (.slice A5 (l.length + 1) c5)
        have ho6 := ho5.kept hgs (by
          cases hv : (Value.slice A5 (l.length + 1) c5).ownBlock with
          | none => exact .inl rfl
          | some b => right; have := (ho5.lt b hv).1; simp; omega)
        rw [asInts_snoc] at ho6
        have hle : (l ++ [i]).length = l.length + 1 := by simp
        exact ⟨⟨i + 1, l ++ [i], A5, c5, by omega, by go_num, (by show l ++ [i] = _; rw [HS.out, hl.out]), (by rw [hle]; exact hset), (by rw [hle]; exact ho6), ((hb.trans ((below1' _ _).mono (by omega))).trans (hb5.mono (by omega))).setCell (Nat.le_refl _) _⟩, by simp [intOf]; omega⟩
    · obtain rfl : N = i := by omega
      have hcl := cell_of_row wr w3.heap.size 0 _ _ (0, 0) hh.out
      simp at hcl
      have hlA := own_at ho
      have hle := own_le ho
      have hnil := own_nil ho
      have hbx := (hb.cell (p := ⟨w.heap.size + 1, 0, none⟩) (by simp; omega)).trans hboxa
      have hget : ∀ (j x : Nat), l[j]? = some x → ∃ r, LL[x]? = some r ∧ r.length = c := by
        intro j x hx
        have hm : x ∈ presL LL N := by rw [← hl.out]; exact List.mem_of_getElem? hx
        obtain ⟨h1, h2⟩ := presL_mem hm
        have hxl : x < LL.length := by rw [← HNL.out]; exact h1
        have hxx : LL[x]? = some LL[x] := List.getElem?_eq_getElem hxl
        refine ⟨LL[x], hxx, ?_⟩
        rcases hall _ (List.getElem_mem hxl) with h | h
        · rw [List.getD_eq_getElem?_getD, hxx] at h2
          exact absurd h h2
        · exact h
      have HHAS := Lib.hid (some1_has (cl := c') (p := .pointer (some ⟨w.heap.size + 1, 0, none⟩)) (q := .pointer (some ⟨w3.heap.size, 0, none⟩)) hlA rfl (by omega) (fun wq hbq j x hx => by
        obtain ⟨r1, hr1, hr1c⟩ := hget j x hx
        have hj : j < l.length := (List.getElem?_eq_some_iff.1 hx).1
        obtain ⟨x0, hx0⟩ : ∃ x0, l[0]? = some x0 := ⟨_, List.getElem?_eq_getElem (by omega)⟩
        obtain ⟨r0, hr0, hr0c⟩ := hget 0 x0 hx0
        obtain ⟨bl, ol, rfl⟩ := some_of_at hlA (by simp; omega)
        have hBq := hBw.trans (hbq.mono hBw.size)
        exact some1_calls ((hbq.cell (p := ⟨w.heap.size + 1, 0, none⟩) (block_lt hbx)).trans hbx) ((hbq.cell (p := ⟨w3.heap.size, 0, none⟩) (block_lt hcl)).trans hcl) (hS.below hBq) (hLS.below hBq) (hlA.below hbq) HNL.out (by omega) hx0 hr0 hr1 (by rw [hr0c, hr1c])))
      go_wp2_with fail
      refine HHAS.out.mono ?_
      rintro e w6 ⟨rfl, hb6⟩
      have hcl6 := (hb6.cell (p := ⟨w3.heap.size, 0, none⟩) (block_lt hcl)).trans hcl
      have hl6 := hlA.below hb6
      have hB6 := hBw.trans (hb6.mono hBw.size)
      clear HHAS
      go_wp2_with fail
      go_ret2
      rw [← hl.out]
      exact ⟨A', c', rfl, hl6, hle, hnil, hB6⟩

end Go.Proofs.YtibidlgikecelaaDoor
