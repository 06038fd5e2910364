/- Contracts: reed.some, amphoraref03.some, of anything. -/
import Derived.Test.YtibidlgikecelaaDoorT18
import Derived.Test.YtibidlgikecelaaDoorR6
namespace Go.Proofs.YtibidlgikecelaaDoor
open Go.RowKit
set_option linter.unusedVariables false
set_option linter.unusedSimpArgs false

set_option maxHeartbeats 800000 in
set_option maxRecDepth 100000 in
theorem smg_gidx {w : World} {A : Option Addr} {n c : Nat} {p q : Value} {vs : List Value} {b : Nat → Bool} (hA : At w A vs) (hn : n = vs.length) (hmax : n ≤ 140737488355328)
    (HF : ∀ wq : World, Below w.heap.size w wq → ∀ (i : Nat) v, vs[i]? = some v → Calls Tryd.prog 96 #[v, p, q] wq fun e w' => e = .returned (.bool (b i)) ∧ Below wq.heap.size wq w') :
    Calls Tryd.prog 92 #[.slice A n c, .func (.func 96) #[] #[p, q]] w fun e w' => e = .returned (.int .i64 (firstZ b n)) ∧ Below w.heap.size w w' := by
  subst hn
  generalize hr : firstZ b vs.length = r
  have HR := Lib.hid hr
  clear hr
  go_enter Tryd.func92, Tryd.ntmps92
  go_wp2_with fail
  go_loopw [8] (fun s8 wr => ∃ j : Nat, j ≤ vs.length ∧ s8 = .int .i64 ((j : Nat) : Int) ∧ Below w.heap.size w wr ∧ Hid (∀ i, i < j → b i = false)) (fun s8 _ => vs.length - (intOf s8).toNat)
  case atStart => exact ⟨0, by omega, rfl, Below.refl _ _, fun i hi => by omega⟩
  case round =>
    obtain ⟨j, hj, rfl, hb, HALL⟩ := hrel
    by_cases hjl : j < vs.length
    · obtain ⟨b', o', rfl, hc⟩ := (hA.below hb) j _ (List.getElem?_eq_getElem hjl)
      have hC := Lib.hid (HF wr hb j _ (List.getElem?_eq_getElem hjl))
      have hji : (j : Int) < (vs.length : Int) := by omega
      generalize vs[j] = v at *
      cases hbj : b j with
      | false =>
        rw [hbj] at hC
        have HJ := Lib.hid hbj
        clear hbj
        go_wp2_with fail
        refine hC.out.mono ?_
        rintro e w' ⟨rfl, hb'⟩
        go_wp2_with fail
        refine ⟨⟨j + 1, by omega, by go_num, hb.trans (hb'.mono hb.size), fun i hi => ?_⟩, by simp [intOf]; omega⟩
        by_cases hij : i < j
        · exact HALL.out i hij
        · obtain rfl : i = j := by omega
          exact HJ.out
      | true =>
        rw [hbj] at hC
        have HJ := Lib.hid hbj
        clear hbj
        go_wp2_with fail
        refine hC.out.mono ?_
        rintro e w' ⟨rfl, hb'⟩
        go_wp2_with fail
        go_ret
        refine ⟨ret_int ?_, hb.trans (hb'.mono hb.size)⟩
        rw [← HR.out]
        exact (firstZ_at hjl HJ.out HALL.out).symm
    · obtain rfl : j = vs.length := by omega
      go_wp2_with fail
      go_ret
      refine ⟨ret_int ?_, hb⟩
      rw [← HR.out]
      exact (firstZ_no HALL.out).symm

set_option maxHeartbeats 800000 in
set_option maxRecDepth 100000 in
theorem smg_ghas {w : World} {A : Option Addr} {n c : Nat} {p q : Value} {vs : List Value} {b : Nat → Bool} (hA : At w A vs) (hn : n = vs.length) (hmax : n ≤ 140737488355328)
    (HF : ∀ wq : World, Below w.heap.size w wq → ∀ (i : Nat) v, vs[i]? = some v → Calls Tryd.prog 96 #[v, p, q] wq fun e w' => e = .returned (.bool (b i)) ∧ Below wq.heap.size wq w') :
    Calls Tryd.prog 68 #[.slice A n c, .func (.func 96) #[] #[p, q]] w (RetV w (.bool (anyB b n))) := by
  have HC0 := smg_gidx (c := c) (p := p) (q := q) hA hn hmax HF
  rw [← firstZ_any]
  generalize firstZ b n = r at *
  have HC := Lib.hid HC0
  clear HF HC0 hn
  go_enter Tryd.func68, Tryd.ntmps68
  go_wp2_with fail
  refine HC.out.mono ?_
  rintro e w' ⟨rfl, hb⟩
  go_wp2_with fail
  go_ret
  exact ⟨rfl, hb⟩

def lenAt (LL : List (List B8)) (x : Nat) : Nat := (LL.getD x []).length
/-- Whether some of the places has a text of another length than the first. -/
def oddB (LL : List (List B8)) (l : List Nat) : Bool := anyB (fun j => (((lenAt LL (l.getD j 0) : Nat) : Int) != ((lenAt LL (l.getD 0 0) : Nat) : Int))) l.length
/-- Whether texts may be shards. -/
def okS (K M : Int) (LL : List (List B8)) : Bool := decide (codeB K M) && decide ((LL.length : Int) = K + M) && !oddB LL (presL LL LL.length)
theorem lenAt_some {LL : List (List B8)} {x : Nat} {l : List B8} (h : LL[x]? = some l) : lenAt LL x = l.length := by
  unfold lenAt; rw [List.getD_eq_getElem?_getD, h]; rfl
theorem getD_some {l : List Nat} {j x : Nat} (h : l[j]? = some x) : l.getD j 0 = x := by rw [List.getD_eq_getElem?_getD, h]; rfl
theorem presL_pre (LL : List (List B8)) {i N : Nat} (h : i ≤ N) : ∃ r, presL LL N = presL LL i ++ r := by
  induction N with
  | zero => exact ⟨[], by have : i = 0 := by omega
                          subst this; simp⟩
  | succ N ih =>
    by_cases hi : i = N + 1
    · subst hi; exact ⟨[], by simp⟩
    · obtain ⟨r, hr⟩ := ih (by omega)
      unfold presL at hr ⊢
      rw [List.range_succ, List.filter_append, hr]
      exact ⟨r ++ List.filter (fun k => decide (LL.getD k [] ≠ [])) [N], by rw [List.append_assoc]⟩
theorem oddB_at {LL : List (List B8)} {i N : Nat} {l : List B8} (hi : i < N) (hl : LL[i]? = some l) (hne : l ≠ []) (hp : 0 < (presL LL i).length) (hodd : l.length ≠ lenAt LL ((presL LL i).getD 0 0)) : oddB LL (presL LL N) = true := by
  obtain ⟨r, hr⟩ := presL_pre LL (by omega : i + 1 ≤ N)
  rw [presL_take hl hne] at hr
  cases hb : oddB LL (presL LL N) with
  | true => rfl
  | false =>
    exfalso
    unfold oddB at hb
    rw [anyB_false] at hb
    have h1 := hb (presL LL i).length (by rw [hr]; simp)
    have e1 : (presL LL N).getD (presL LL i).length 0 = i := getD_some (by rw [hr]; simp)
    have e2 : (presL LL N).getD 0 0 = (presL LL i).getD 0 0 := by
      rw [hr, List.getD_eq_getElem?_getD, List.getD_eq_getElem?_getD, List.append_assoc, List.getElem?_append_left hp]
    rw [e1, e2, lenAt_some hl] at h1
    have : ((l.length : Nat) : Int) = ((lenAt LL ((presL LL i).getD 0 0) : Nat) : Int) := by simpa using h1
    omega
theorem oddB_no {LL : List (List B8)} {l : List Nat} (h : ∀ (j x : Nat), l[j]? = some x → lenAt LL x = lenAt LL (l.getD 0 0)) : oddB LL l = false := by
  unfold oddB
  rw [anyB_false]
  intro j hj
  have hx : l[j]? = some l[j] := List.getElem?_eq_getElem hj
  rw [getD_some hx, h j _ hx]
  simp
theorem oddB_len {LL : List (List B8)} {l : List Nat} (h : oddB LL l = false) : ∀ (j x : Nat), l[j]? = some x → lenAt LL x = lenAt LL (l.getD 0 0) := by
  intro j x hx
  unfold oddB at h
  rw [anyB_false] at h
  have := h j (List.getElem?_eq_some_iff.1 hx).1
  rw [getD_some hx] at this
  have : ((lenAt LL x : Nat) : Int) = ((lenAt LL (l.getD 0 0) : Nat) : Int) := by simpa using this
  omega

set_option maxHeartbeats 800000 in
set_option maxRecDepth 100000 in
theorem some1_gen {w : World} {ts tl bS oS n cS bl ol m cl i x0 : Nat} {vs : List Value} {LL : List (List B8)} {l : List Nat} {r0 r1 : List B8}
    (hts : w.cell? ⟨ts, 0, none⟩ = some (.slice (some ⟨bS, oS, none⟩) n cS)) (htl : w.cell? ⟨tl, 0, none⟩ = some (.slice (some ⟨bl, ol, none⟩) m cl))
    (hS : At w (some ⟨bS, oS, none⟩) vs) (hLS : Texts w vs LL) (hl : At w (some ⟨bl, ol, none⟩) (ints (asInts l))) (hn : n = LL.length) (hm : 0 < m)
    (h0 : l[0]? = some x0) (hx0 : LL[x0]? = some r0) (hi : LL[i]? = some r1) :
    Calls Tryd.prog 96 #[.int .i64 (i : Int), .pointer (some ⟨ts, 0, none⟩), .pointer (some ⟨tl, 0, none⟩)] w fun e w' => e = .returned (.bool ((r1.length : Int) != (r0.length : Int))) ∧ Below w.heap.size w w' := by
  have hc0 := at_nat hl h0
  rw [Nat.add_zero] at hc0
  obtain ⟨X0, cx0, hh0, _, _, _⟩ := head_at hS hLS hx0
  obtain ⟨X1, cx1, hh1, _, _, _⟩ := head_at hS hLS hi
  have hxn : (x0 : Int) < (n : Int) := by have := (List.getElem?_eq_some_iff.1 hx0).1; omega
  have hin : (i : Int) < (n : Int) := by have := (List.getElem?_eq_some_iff.1 hi).1; omega
  have hmi : (0 : Int) < (m : Int) := by omega
  generalize hres : ((r1.length : Int) != (r0.length : Int)) = res
  have HRES := Lib.hid hres
  clear hn hx0 hi h0 hres
  go_enter Tryd.func96, Tryd.ntmps96
  go_wp2_with fail
  go_quiet (fail)
  go_wp2_with fail
  go_ret
  exact ⟨ret_bool HRES.out, belowN _⟩

/-- What some answers: places, or an error. -/
def RetSm (w : World) (l : List Nat) : Bool → Ending → World → Prop
  | true, e, w' => RetE w 1 e w'
  | false, e, w' => RetSome w l e w'
set_option maxHeartbeats 2000000 in
set_option maxRecDepth 100000 in
theorem some_gen {w : World} {K M N cS : Nat} {S : Option Addr} {vs : List Value} {LL : List (List B8)} {od : Bool} (hS : At w S vs) (hLS : Texts w vs LL) (hN : N = LL.length) (hNK : N = K + M) (hK : 1 ≤ K) (hKM : K + M ≤ 255) (HOD : Hid (oddB LL (presL LL N) = od)) :
    Calls Tryd.prog 79 #[.agg #[.int .i64 (K : Int), .int .i64 (M : Int)], .slice S N cS] w (RetSm w (presL LL N) od) := by
  obtain ⟨bS, oS, rfl⟩ := some_of_at hS (by rw [hLS.1]; omega)
  have hNi : (N : Int) = (K : Int) + (M : Int) := by omega
  have hnn : ((N : Int) != (K : Int) + (M : Int)) = false := by simp; omega
  have hb1 := below1' w (.cells #[.int .i64 (K : Int), .int .i64 (M : Int)] 38)
  have hk0 : (w.alloc (.cells #[.int .i64 (K : Int), .int .i64 (M : Int)] 38)).cell? ⟨w.heap.size, 0, none⟩ = some (.int .i64 (K : Int)) := cell_of_row _ _ 0 _ _ (0, 0) (heap_alloc_new w _)
  have hk1 : (w.alloc (.cells #[.int .i64 (K : Int), .int .i64 (M : Int)] 38)).cell? ⟨w.heap.size, 1, none⟩ = some (.int .i64 (M : Int)) := cell_of_row _ _ 1 _ _ (0, 0) (heap_alloc_new w _)
  have hs1 : (w.alloc (.cells #[.int .i64 (K : Int), .int .i64 (M : Int)] 38)).heap.size = w.heap.size + 1 := by simp
  have HNI := Lib.hid hNi
  have HNL := Lib.hid hN
  have HNK := Lib.hid hNK
  have hvs := Lib.hid hLS.1
  have hN255 : N ≤ 255 := by omega
  have hNN := Lib.hid hNi
  clear hNi hN hNK
  go_enter Tryd.func79, Tryd.ntmps79
  go_wp2_with fail
  generalize w.alloc (.cells #[.int .i64 (K : Int), .int .i64 (M : Int)] 38) = wa at *
  have hb2 := below1' wa (.cells #[.slice (some ⟨bS, oS, none⟩) N cS] 24)
  have hbox := box_cell wa (.slice (some ⟨bS, oS, none⟩) N cS) 24
  have hk0b := (hb2.cell (p := ⟨w.heap.size, 0, none⟩) (by simp; omega)).trans hk0
  have hk1b := (hb2.cell (p := ⟨w.heap.size, 1, none⟩) (by simp; omega)).trans hk1
  have hB2 := hb1.trans (hb2.mono hb1.size)
  have hs2 : (wa.alloc (.cells #[.slice (some ⟨bS, oS, none⟩) N cS] 24)).heap.size = w.heap.size + 2 := by simp; omega
  rw [hs1] at hbox
  generalize wa.alloc (.cells #[.slice (some ⟨bS, oS, none⟩) N cS] 24) = wb at *
  clear hk0 hk1 hb1 hb2
  refine (can_calls hK hKM).mono ?_
  rintro e w3 ⟨rfl, hb3⟩
  have hB3 := hB2.trans (hb3.mono hB2.size)
  have hk03 := (hb3.cell (p := ⟨w.heap.size, 0, none⟩) (by simp; omega)).trans hk0b
  have hk13 := (hb3.cell (p := ⟨w.heap.size, 1, none⟩) (by simp; omega)).trans hk1b
  have hbox3 := (hb3.cell (p := ⟨w.heap.size + 1, 0, none⟩) (by simp; omega)).trans hbox
  have hz3 := hb3.size
  clear hk0b hk1b hbox
  have hba := below1' w3 (.cells #[.slice none 0 0] 34)
  have hla := heap_alloc_new w3 (.cells #[.slice none 0 0] 34)
  have hsa : (w3.alloc (.cells #[.slice none 0 0] 34)).heap.size = w3.heap.size + 1 := by simp
  have hboxa := (hba.cell (p := ⟨w.heap.size + 1, 0, none⟩) (by simp; omega)).trans hbox3
  have hBa := hB3.trans (hba.mono hB3.size)
  go_wp2_with fail
  generalize w3.alloc (.cells #[.slice none 0 0] 34) = w4 at *
  have HLA := Lib.hid hla
  clear hla
  go_loopw [24] (fun s wr => ∃ (i : Nat) (l : List Nat) (A' : Option Addr) (c' : Nat), i ≤ N ∧ s = .int .i64 ((i : Nat) : Int) ∧ Hid (l = presL LL i) ∧ Hid (wr.heap[w3.heap.size]? = some (.cells #[.slice A' l.length c'] 34 (0, 0))) ∧
    wr.ownsRow (w3.heap.size + 1) 3 1 (.slice A' l.length c') l.length (ints (asInts l)) ∧ Below w3.heap.size w4 wr) (fun s _ => N - (intOf s).toNat)
  case atStart => exact ⟨0, [], none, 0, by omega, rfl, rfl, HLA.out, World.ownsRow_nil _ _ _ _, Below.refl _ _⟩
  case round =>
    obtain ⟨i, l, A', c', hi, rfl, hl, hh, ho, hb⟩ := hrel
    have hBw := hBa.trans (hb.mono hB3.size)
    have hzr := hb.size
    have hlen : l.length ≤ 255 := by
      have := presL_le LL i
      rw [← hl.out] at this
      omega
    by_cases hin : i < N
    · have hii : (i : Int) < (N : Int) := by omega
      have hit : i < LL.length := by rw [← HNL.out]; exact hin
      have hx : LL[i]? = some LL[i] := List.getElem?_eq_getElem hit
      obtain ⟨X, cx, hcx, _, _, _⟩ := head_at hS hLS hx
      have hbS := (block_lt hcx)
      have hcxw := (hBw.cell (p := ⟨bS, oS + i, none⟩) hbS).trans hcx
      generalize LL[i] = r at *
      by_cases hr : r = []
      · subst hr
        have HS := Lib.hid (presL_skip hx rfl)
        clear hx hcx
        go_wp2_with fail
        exact ⟨⟨i + 1, l, A', c', by omega, by go_num, hl.out.trans HS.out.symm, hh, ho, hb⟩, by simp [intOf]; omega⟩
      · have hrl : 0 < r.length := List.length_pos_iff.2 hr
        have hrli : (0 : Int) < (r.length : Int) := by omega
        have HS := Lib.hid (presL_take hx hr)
        have hcl := cell_of_row wr w3.heap.size 0 _ _ (0, 0) hh.out
        simp at hcl
        have ho2 := own_below ho (below1' wr (.cells #[.int .i64 (i : Int)] 3))
        have hbyt : (l.length + 1) * 8 ≤ 140737488355328 := by omega
        have hzA : w3.heap.size + 1 ≤ (wr.alloc (.cells #[.int .i64 (i : Int)] 3)).heap.size := by simp; omega
        clear hx hcx
        go_wp2_with (at_builtin; refine app_ints rfl (.tmp 32) (.tmp 34) rfl (w3.heap.size + 1) rfl ho2 rfl (news := [(i : Int)]) rfl (by exact at_new _ _ _ _) (by simp) hbyt hzA ?_; intro A5 c5 w5 ho5 hb5 hg5 hc5; have hh5 := (hg5.1.block w3.heap.size (by omega) (fun he => by have := (ho2.lt w3.heap.size he.symm).1; omega)).trans ((Below.heap_alloc _ _ _ (by omega)).trans hh.out); have hcl5 := cell_of_row w5 w3.heap.size 0 _ _ (0, 0) hh5; simp at hcl5; have hfl5 := frozen_of_row w5 w3.heap.size 0 _ _ hh5; replace hh5 := Lib.hid hh5)
        clear hg5
        have hset := heap_setCell_same w5 w3.heap.size 0 _ _ (.slice A5 (l.length + 1) c5) hh5.out
        have hgs := grown_set w5 w3.heap.size 0 (.slice A5 (l.length + 1) c5)
        have ho6 := ho5.kept hgs (by
          cases hv : (Value.slice A5 (l.length + 1) c5).ownBlock with
          | none => exact .inl rfl
          | some b => right; have := (ho5.lt b hv).1; simp; omega)
        rw [asInts_snoc] at ho6
        have hle : (l ++ [i]).length = l.length + 1 := by simp
        exact ⟨⟨i + 1, l ++ [i], A5, c5, by omega, by go_num, (by show l ++ [i] = _; rw [HS.out, hl.out]), (by rw [hle]; exact hset), (by rw [hle]; exact ho6), ((hb.trans ((below1' _ _).mono (by omega))).trans (hb5.mono (by omega))).setCell (Nat.le_refl _) _⟩, by simp [intOf]; omega⟩
    · obtain rfl : N = i := by omega
      have hcl := cell_of_row wr w3.heap.size 0 _ _ (0, 0) hh.out
      simp at hcl
      have hlA := own_at ho
      have hle := own_le ho
      have hnil := own_nil ho
      have hbx := (hb.cell (p := ⟨w.heap.size + 1, 0, none⟩) (by simp; omega)).trans hboxa
      have HHAS := Lib.hid (smg_ghas (n := l.length) (c := c') (p := .pointer (some ⟨w.heap.size + 1, 0, none⟩)) (q := .pointer (some ⟨w3.heap.size, 0, none⟩)) (b := fun j => (((lenAt LL (l.getD j 0) : Nat) : Int) != ((lenAt LL (l.getD 0 0) : Nat) : Int))) hlA (by simp) (by omega) (fun wq hbq j v hv => by
        have hj : j < l.length := by have := (List.getElem?_eq_some_iff.1 hv).1; simpa using this
        have hx : l[j]? = some l[j] := List.getElem?_eq_getElem hj
        have hvx : v = .int .i64 (l[j] : Int) := by
          have : (ints (asInts l))[j]? = some (.int .i64 (l[j] : Int)) := by simp [ints, asInts, hx]
          rw [this] at hv; exact (Option.some.inj hv).symm
        have hget : ∀ (a x : Nat), l[a]? = some x → ∃ r, LL[x]? = some r := by
          intro a x hx
          have hm : x ∈ presL LL N := by rw [← hl.out]; exact List.mem_of_getElem? hx
          have hxl : x < LL.length := by rw [← HNL.out]; exact (presL_mem hm).1
          exact ⟨_, List.getElem?_eq_getElem hxl⟩
        obtain ⟨r1, hr1⟩ := hget j _ hx
        obtain ⟨x0, hx0⟩ : ∃ x0, l[0]? = some x0 := ⟨_, List.getElem?_eq_getElem (by omega)⟩
        obtain ⟨r0, hr0⟩ := hget 0 x0 hx0
        obtain ⟨bl, ol, rfl⟩ := some_of_at hlA (by simp; omega)
        have hBq := hBw.trans (hbq.mono hBw.size)
        rw [hvx, getD_some hx, getD_some hx0, lenAt_some hr1, lenAt_some hr0]
        exact some1_gen ((hbq.cell (p := ⟨w.heap.size + 1, 0, none⟩) (block_lt hbx)).trans hbx) ((hbq.cell (p := ⟨w3.heap.size, 0, none⟩) (block_lt hcl)).trans hcl) (hS.below hBq) (hLS.below hBq) (hlA.below hbq) HNL.out (by omega) hx0 hr0 hr1))
      have hany : anyB (fun j => (((lenAt LL (l.getD j 0) : Nat) : Int) != ((lenAt LL (l.getD 0 0) : Nat) : Int))) l.length = od := by
        have := HOD.out
        rw [← hl.out] at this
        exact this
      rw [hany] at HHAS
      clear hany
      cases od with
      | false =>
        go_wp2_with fail
        refine HHAS.out.mono ?_
        rintro e w6 ⟨rfl, hb6⟩
        have hcl6 := (hb6.cell (p := ⟨w3.heap.size, 0, none⟩) (block_lt hcl)).trans hcl
        have hl6 := hlA.below hb6
        have hB6 := hBw.trans (hb6.mono hBw.size)
        clear HHAS
        go_wp2_with fail
        go_ret2
        rw [← hl.out]
        exact ⟨A', c', rfl, hl6, hle, hnil, hB6⟩
      | true =>
        go_wp2_with fail
        refine HHAS.out.mono ?_
        rintro e w6 ⟨rfl, hb6⟩
        have hB6 := hBw.trans (hb6.mono hBw.size)
        clear HHAS
        go_wp2_with fail
        go_ret2
        exact ⟨rfl, hB6⟩


set_option maxHeartbeats 1000000 in
set_option maxRecDepth 100000 in
theorem some_no {w : World} {K M : Int} {N cS : Nat} {S : Option Addr} (h : ¬ (codeB K M ∧ (N : Int) = K + M)) :
    Calls Tryd.prog 79 #[.agg #[.int .i64 K, .int .i64 M], .slice S N cS] w (RetE w 1) := by
  obtain ⟨wb, hwb, hB2, hk0, hk1, hbox, hsz⟩ := enc_boxes w K M (.slice S N cS)
  have HWB := Lib.hid hwb
  clear hwb
  have HCAN := Lib.hid (can_x (w := wb) K M)
  by_cases hc : codeB K M
  · rw [decide_eq_true hc] at HCAN
    have hneq : ((N : Int) != K + M) = true := by
      have : (N : Int) ≠ K + M := fun he => h ⟨hc, he⟩
      simpa using this
    have hr : -1000 ≤ K + M ∧ K + M ≤ 1000 := by obtain ⟨c1, c2, c3, c4⟩ := hc; omega
    clear h hc
    go_enter Tryd.func79, Tryd.ntmps79
    go_wp2_with fail
    have hwb := HWB.out
    rw [← hwb]
    clear hwb
    refine HCAN.out.mono ?_
    rintro e w3 ⟨rfl, hb3⟩
    have hB3 := hB2.trans (hb3.mono hB2.size)
    have hk03 := (hb3.cell (p := ⟨w.heap.size, 0, none⟩) (block_lt hk0)).trans hk0
    have hk13 := (hb3.cell (p := ⟨w.heap.size, 1, none⟩) (block_lt hk1)).trans hk1
    have hbox3 := (hb3.cell (p := ⟨w.heap.size + 1, 0, none⟩) (block_lt hbox)).trans hbox
    clear hk0 hk1 hbox
    go_wp2_with fail
    go_ret2
    exact ⟨rfl, hB3⟩
  · rw [decide_eq_false hc] at HCAN
    clear h hc
    go_enter Tryd.func79, Tryd.ntmps79
    go_wp2_with fail
    have hwb := HWB.out
    rw [← hwb]
    clear hwb
    refine HCAN.out.mono ?_
    rintro e w3 ⟨rfl, hb3⟩
    go_wp2_with fail
    go_ret2
    exact ⟨rfl, hB2.trans (hb3.mono hB2.size)⟩
theorem some_x {w : World} {K M : Int} {N cS : Nat} {S : Option Addr} {LL : List (List B8)} (hS : LAt w S LL) (hN : N = LL.length) :
    Calls Tryd.prog 79 #[.agg #[.int .i64 K, .int .i64 M], .slice S N cS] w (RetSm w (presL LL N) (!okS K M LL)) := by
  by_cases h : codeB K M ∧ (N : Int) = K + M
  · obtain ⟨⟨c1, c2, c3, c4⟩, h2⟩ := h
    obtain ⟨K, rfl⟩ := Int.eq_ofNat_of_zero_le (by omega : 0 ≤ K)
    obtain ⟨M, rfl⟩ := Int.eq_ofNat_of_zero_le (by omega : 0 ≤ M)
    obtain ⟨vs, hA, hT⟩ := hS
    refine some_gen hA hT hN (by omega) (by omega) (by omega) ?_
    have e1 : codeB (K : Int) (M : Int) := ⟨by omega, by omega, by omega, by omega⟩
    have e2 : (LL.length : Int) = (K : Int) + (M : Int) := by omega
    show _ = _
    unfold okS
    rw [decide_eq_true e1, decide_eq_true e2, ← hN]
    simp
  · have : okS K M LL = false := by
      unfold okS
      by_cases hc : codeB K M
      · rw [decide_eq_false (fun he : (LL.length : Int) = K + M => h ⟨hc, by omega⟩)]; simp
      · rw [decide_eq_false hc]; simp
    rw [this]
    exact some_no h

end Go.Proofs.YtibidlgikecelaaDoor
