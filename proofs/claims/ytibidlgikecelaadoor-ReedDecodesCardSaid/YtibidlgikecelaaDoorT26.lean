/- Contracts: amphoraref03.Same; reed.Right, amphoraref03.Right, of anything. -/
import Derived.Test.YtibidlgikecelaaDoorT25
import Derived.Test.YtibidlgikecelaaDoorR7
namespace Go.Proofs.YtibidlgikecelaaDoor
open Go.RowKit
set_option linter.unusedVariables false
set_option linter.unusedSimpArgs false

set_option maxHeartbeats 1000000 in
set_option maxRecDepth 100000 in
theorem rsame_calls {w : World} {A B : Option Addr} {n m a b : Nat} {vA vB : List Value} {L K : List (List B8)} (hA : At w A vA) (hLA : Texts w vA L) (hB : At w B vB) (hLB : Texts w vB K) (hn : n = L.length) (hm : m = K.length) (hmax : L.length ≤ 5864062014634) :
    Calls Tryd.prog 84 #[.slice A n a, .slice B m b] w (RetV w (.bool (decide (L = K)))) := by
  subst hn hm
  by_cases hlen : L.length = K.length
  · have hne : ((L.length : Int) != (K.length : Int)) = false := by simp; omega
    have HLen := Lib.hid hlen
    clear hlen
    generalize hr : decide (L = K) = r
    have HR := Lib.hid hr
    clear hr
    go_enter Tryd.func84, Tryd.ntmps84
    go_wp2_with fail
    go_loopw [13] (fun s wr => ∃ j : Nat, j ≤ L.length ∧ s = .int .i64 ((j : Nat) : Int) ∧ Below w.heap.size w wr ∧ Hid (∀ i, i < j → L[i]? = K[i]?)) (fun s _ => L.length - (intOf s).toNat)
    case atStart => exact ⟨0, by omega, rfl, Below.refl _ _, fun i hi => by omega⟩
    case round =>
      obtain ⟨j, hj, rfl, hb, HALL⟩ := hrel
      rename World => w1
      by_cases hjl : j < L.length
      · have hji : (j : Int) < (L.length : Int) := by omega
        have hjk : j < K.length := by have := HLen.out; omega
        have hjki : (j : Int) < (K.length : Int) := by omega
        have hlA : L[j]? = some L[j] := List.getElem?_eq_getElem hjl
        have hlB : K[j]? = some K[j] := List.getElem?_eq_getElem hjk
        obtain ⟨ba, oa, rfl, hba⟩ := heads_some hA hLA (by omega)
        obtain ⟨bb, ob, rfl, hbb⟩ := heads_some hB hLB (by omega)
        generalize L[j] = l at *
        generalize K[j] = k at *
        obtain ⟨X, cx, hcx, hX, _, _⟩ := head_at hA hLA hlA
        obtain ⟨Y, cy, hcy, hY, _, _⟩ := head_at hB hLB hlB
        have HLA := Lib.hid hlA
        have HLB := Lib.hid hlB
        have hcxw := (hb.cell (p := ⟨ba, oa + j, none⟩) hba).trans hcx
        have hcyw := (hb.cell (p := ⟨bb, ob + j, none⟩) hbb).trans hcy
        have hb1 : Below w.heap.size w w1.drew := hb.drew
        clear hcx hcy hlA hlB
        go_wp2_with fail
        have hcxD : w1.drew.cell? ⟨ba, oa + j, none⟩ = some (.slice X l.length cx) := hcxw
        have hcyD : w1.drew.cell? ⟨bb, ob + j, none⟩ = some (.slice Y k.length cy) := hcyw
        refine wp_region_held_drew (S := fun w' => w' = w1.drew) (by kernel_rfl) rfl (fun hHeld => ?_)
        generalize w1.drew = WD at *
        have hXD := hX.below hb1
        have hYD := hY.below hb1
        have h1 := conv_str (P := Tryd.prog) WD 22 9 5 Tryd.underlying22 Tryd.underlying5 Tryd.underlying9 (c := cx) hXD rfl
        have h2 := conv_str (P := Tryd.prog) WD 22 9 5 Tryd.underlying22 Tryd.underlying5 Tryd.underlying9 (c := cy) hYD rfl
        refine wpAnyH_take (i := 0) (v := ?_) rfl (by kernel_rfl) (by kernel_rfl) (by kernel_rfl) (fun _ _ _ h => h) (Or.inl ⟨by rfl, ?_⟩) (by assumption) ?_; rotate_left; (intro w hSw; (try dsimp only at hSw); subst hSw; go_simp; (first | done | (with_reducible rfl))); (try simp only [List.getElem_toArray, List.getElem_cons_succ, List.getElem_cons_zero, Act.put, List.setIfInBounds_toArray, List.set_cons_zero, List.set_cons_succ])
        refine wpAnyH_take (i := 1) (v := ?_) rfl (by kernel_rfl) (by kernel_rfl) (by kernel_rfl) (fun _ _ _ h => h) (Or.inl ⟨by rfl, ?_⟩) (by assumption) ?_; rotate_left; (intro w hSw; (try dsimp only at hSw); subst hSw; go_simp; (first | done | (with_reducible rfl))); (try simp only [List.getElem_toArray, List.getElem_cons_succ, List.getElem_cons_zero, Act.put, List.setIfInBounds_toArray, List.set_cons_zero, List.set_cons_succ])
        refine wpAnyH_take (i := 5) (v := ?_) rfl (by kernel_rfl) (by kernel_rfl) (by kernel_rfl) (fun _ _ _ h => h) (Or.inl ⟨by rfl, ?_⟩) (by assumption) ?_; rotate_left; (intro w hSw; (try dsimp only at hSw); subst hSw; go_simp; (first | done | (with_reducible rfl))); (try simp only [List.getElem_toArray, List.getElem_cons_succ, List.getElem_cons_zero, Act.put, List.setIfInBounds_toArray, List.set_cons_zero, List.set_cons_succ])
        refine wpAnyH_take (i := 6) (v := ?_) rfl (by kernel_rfl) (by kernel_rfl) (by kernel_rfl) (fun _ _ _ h => h) (Or.inl ⟨by rfl, ?_⟩) (by assumption) ?_; rotate_left; (intro w hSw; (try dsimp only at hSw); subst hSw; go_simp; (first | done | (with_reducible rfl))); (try simp only [List.getElem_toArray, List.getElem_cons_succ, List.getElem_cons_zero, Act.put, List.setIfInBounds_toArray, List.set_cons_zero, List.set_cons_succ])
        refine wpAnyH_take (i := 2) (v := ?_) rfl (by kernel_rfl) (by kernel_rfl) (by kernel_rfl) (fun _ _ _ h => h) (Or.inl ⟨by rfl, ?_⟩) (by assumption) ?_; rotate_left; (intro w hSw; (try dsimp only at hSw); subst hSw; go_simp; (first | done | (with_reducible rfl))); (try simp only [List.getElem_toArray, List.getElem_cons_succ, List.getElem_cons_zero, Act.put, List.setIfInBounds_toArray, List.set_cons_zero, List.set_cons_succ])
        refine wpAnyH_take (i := 3) (v := ?_) rfl (by kernel_rfl) (by kernel_rfl) (by kernel_rfl) (fun _ _ _ h => h) (Or.inl ⟨by rfl, ?_⟩) (by assumption) ?_; rotate_left; (intro w hSw; (try dsimp only at hSw); subst hSw; go_simp; (first | done | (with_reducible rfl))); (try simp only [List.getElem_toArray, List.getElem_cons_succ, List.getElem_cons_zero, Act.put, List.setIfInBounds_toArray, List.set_cons_zero, List.set_cons_succ])
        refine wpAnyH_take (i := 4) (v := ?_) rfl (by kernel_rfl) (by kernel_rfl) (by kernel_rfl) (fun _ _ _ h => h) (Or.inl ⟨by rfl, ?_⟩) (by assumption) ?_; rotate_left; (intro w hSw; (try dsimp only at hSw); subst hSw; go_simp; (first | done | (with_reducible rfl))); (try simp only [List.getElem_toArray, List.getElem_cons_succ, List.getElem_cons_zero, Act.put, List.setIfInBounds_toArray, List.set_cons_zero, List.set_cons_succ])
        refine wpAnyH_take (i := 7) (v := ?_) rfl (by kernel_rfl) (by kernel_rfl) (by kernel_rfl) (fun _ _ _ h => h) (Or.inl ⟨by rfl, ?_⟩) (by assumption) ?_; rotate_left; (intro w hSw; (try dsimp only at hSw); subst hSw; go_simp; (first | done | (with_reducible rfl))); (try simp only [List.getElem_toArray, List.getElem_cons_succ, List.getElem_cons_zero, Act.put, List.setIfInBounds_toArray, List.set_cons_zero, List.set_cons_succ])
        refine wpAnyH_take (i := 8) (v := ?_) rfl (by kernel_rfl) (by kernel_rfl) (by kernel_rfl) (fun _ _ _ h => h) (Or.inl ⟨by rfl, ?_⟩) (by assumption) ?_; rotate_left; (intro w hSw; (try dsimp only at hSw); subst hSw; go_simp; (first | done | (with_reducible rfl))); (try simp only [List.getElem_toArray, List.getElem_cons_succ, List.getElem_cons_zero, Act.put, List.setIfInBounds_toArray, List.set_cons_zero, List.set_cons_succ])
        refine wpAnyH_take (i := 9) (v := ?_) rfl (by kernel_rfl) (by kernel_rfl) (by kernel_rfl) (fun _ _ _ h => h) (Or.inl ⟨by rfl, ?_⟩) (by assumption) ?_; rotate_left; (intro w hSw; (try dsimp only at hSw); subst hSw; go_simp; (first | done | (with_reducible rfl))); (try simp only [List.getElem_toArray, List.getElem_cons_succ, List.getElem_cons_zero, Act.put, List.setIfInBounds_toArray, List.set_cons_zero, List.set_cons_succ])
        refine wpAnyH_take (i := 10) (v := ?_) rfl (by kernel_rfl) (by kernel_rfl) (by kernel_rfl) (fun _ _ _ h => h) (Or.inl ⟨by rfl, ?_⟩) (by assumption) ?_; rotate_left; (intro w hSw; (try dsimp only at hSw); subst hSw; go_simp; (first | done | (with_reducible rfl))); (try simp only [List.getElem_toArray, List.getElem_cons_succ, List.getElem_cons_zero, Act.put, List.setIfInBounds_toArray, List.set_cons_zero, List.set_cons_succ])
        refine wpAnyH_done (by kernel_rfl) ?_ _
        clear h1 h2
        by_cases hlk : l = k
        · have hd : ((str l).toList == (str k).toList) = true := by rw [str_beq, decide_eq_true hlk]
          rw [hd]
          have HLK := Lib.hid hlk
          clear hlk hd
          go_wp2_with fail
          refine ⟨⟨j + 1, by omega, by go_num, hb1, fun i hi => ?_⟩, by simp [intOf]; omega⟩
          by_cases hij : i < j
          · exact HALL.out i hij
          · obtain rfl : i = j := by omega
            rw [HLA.out, HLB.out, HLK.out]
        · have hd : ((str l).toList == (str k).toList) = false := by rw [str_beq, decide_eq_false hlk]
          have hr : r = false := by
            rw [← HR.out]
            refine decide_eq_false fun he => hlk ?_
            have := HLA.out
            rw [he, HLB.out] at this
            exact (Option.some.inj this).symm
          subst hr
          rw [hd]
          clear hlk hd
          go_wp2_with fail
          go_ret
          exact ⟨rfl, hb1⟩
      · obtain rfl : j = L.length := by omega
        have hr : r = true := by
          rw [← HR.out]
          refine decide_eq_true ?_
          apply List.ext_getElem?
          intro i
          by_cases hi : i < L.length
          · exact HALL.out i hi
          · rw [List.getElem?_eq_none (by omega), List.getElem?_eq_none (by have := HLen.out; omega)]
        subst hr
        go_wp2_with fail
        go_ret
        exact ⟨rfl, hb⟩
  · have hne : ((L.length : Int) != (K.length : Int)) = true := by simp; omega
    rw [decide_eq_false (fun h : L = K => hlen (by rw [h]))]
    clear hlen
    go_enter Tryd.func84, Tryd.ntmps84
    go_wp2_with fail
    go_ret
    exact ⟨rfl, Below.refl _ _⟩

/-- Whether shards are all there, and a code word. -/
def rightB (K M : Int) (LL : List (List B8)) : Bool := okS K M LL && decide ((presL LL LL.length).length = LL.length) && decide (rowsL LL.length (widP LL) (mulM K.toNat (genM K.toNat) (mxOf LL)) = LL)
theorem all_there {LL : List (List B8)} (h : (presL LL LL.length).length = LL.length) (ho : oddB LL (presL LL LL.length) = false) : ∀ l, l ∈ LL → l.length = widP LL := by
  have hf : presL LL LL.length = List.range LL.length := by
    have h1 : (presL LL LL.length).Sublist (List.range LL.length) := List.filter_sublist
    exact h1.eq_of_length (by rw [h]; simp)
  intro l hl
  obtain ⟨k, hk, rfl⟩ := List.getElem_of_mem hl
  refine odd_len ho (List.getElem?_eq_getElem hk) ?_
  have hm : k ∈ presL LL LL.length := by rw [hf]; exact List.mem_range.2 hk
  have := (presL_mem hm).2
  rw [List.getD_eq_getElem?_getD, List.getElem?_eq_getElem hk] at this
  exact this

set_option maxHeartbeats 2000000 in
set_option maxRecDepth 100000 in
theorem right_no1 {w : World} {K M : Int} {N cS : Nat} {S : Option Addr} {LL : List (List B8)} (hS : LAt w S LL) (hN : N = LL.length) (h : ¬ (okS K M LL = true ∧ (presL LL LL.length).length = LL.length)) :
    Calls Tryd.prog 45 #[.agg #[.int .i64 K, .int .i64 M], .slice S N cS] w (RetV w (.bool false)) := by
  obtain ⟨wb, hwb, hB2, hk0, hk1, hsz⟩ := code_box w K M
  have HWB := Lib.hid hwb
  clear hwb
  have HSM := Lib.hid (some_x (w := wb) (K := K) (M := M) (cS := cS) (hS.below hB2) hN)
  cases hok : okS K M LL with
  | false =>
    rw [hok] at HSM
    clear hok hN hS h
    go_enter Tryd.func45, Tryd.ntmps45
    go_wp2_with fail
    have hwb := HWB.out
    rw [← hwb]
    clear hwb
    refine HSM.out.mono ?_
    rintro e w3 ⟨rfl, hb3⟩
    go_wp2_with fail
    go_ret
    exact ⟨rfl, hB2.trans (hb3.mono hB2.size)⟩
  | true =>
    rw [hok] at HSM
    obtain ⟨⟨c1, c2, c3, c4⟩, h2, h3⟩ := okS_true hok
    have hle := presL_le LL N
    have hneq : (presL LL N).length ≠ N := by rw [hN]; exact fun he => h ⟨hok, he⟩
    have hKM : K + M = (N : Int) := by omega
    generalize presL LL N = pl at *
    have hlt : (pl.length : Int) < (N : Int) := by omega
    have hneb : ((pl.length : Int) != K + M) = true := by
      have : (pl.length : Int) ≠ K + M := by omega
      simpa using this
    have hKM2 : -1000 ≤ K + M ∧ K + M ≤ 1000 := by omega
    clear hok hN hS h h2 h3 hle hneq hKM
    go_enter Tryd.func45, Tryd.ntmps45
    go_wp2_with fail
    have hwb := HWB.out
    rw [← hwb]
    clear hwb
    refine HSM.out.mono ?_
    rintro e w3 ⟨Al, cl, rfl, hAl, hlc, hnil, hb3⟩
    have hk03 := (hb3.cell (p := ⟨w.heap.size, 0, none⟩) (block_lt hk0)).trans hk0
    have hk13 := (hb3.cell (p := ⟨w.heap.size, 1, none⟩) (block_lt hk1)).trans hk1
    clear hk0 hk1
    go_wp2_with fail
    go_ret
    exact ⟨rfl, hB2.trans (hb3.mono hB2.size)⟩
set_option maxHeartbeats 2000000 in
set_option maxRecDepth 100000 in
theorem rright_no1 {w : World} {K M : Int} {N cS : Nat} {S : Option Addr} {LL : List (List B8)} (hS : LAt w S LL) (hN : N = LL.length) (h : ¬ (okS K M LL = true ∧ (presL LL LL.length).length = LL.length)) :
    Calls Tryd.prog 56 #[.agg #[.int .i64 K, .int .i64 M], .slice S N cS] w (RetV w (.bool false)) := by
  obtain ⟨wb, hwb, hB2, hk0, hk1, hsz⟩ := code_box w K M
  have HWB := Lib.hid hwb
  clear hwb
  have HSM := Lib.hid (rsome_x (w := wb) (K := K) (M := M) (cS := cS) (hS.below hB2) hN)
  cases hok : okS K M LL with
  | false =>
    rw [hok] at HSM
    clear hok hN hS h
    go_enter Tryd.func56, Tryd.ntmps56
    go_wp2_with fail
    have hwb := HWB.out
    rw [← hwb]
    clear hwb
    refine HSM.out.mono ?_
    rintro e w3 ⟨rfl, hb3⟩
    go_wp2_with fail
    go_ret
    exact ⟨rfl, hB2.trans (hb3.mono hB2.size)⟩
  | true =>
    rw [hok] at HSM
    obtain ⟨⟨c1, c2, c3, c4⟩, h2, h3⟩ := okS_true hok
    have hle := presL_le LL N
    have hneq : (presL LL N).length ≠ N := by rw [hN]; exact fun he => h ⟨hok, he⟩
    have hKM : K + M = (N : Int) := by omega
    generalize presL LL N = pl at *
    have hlt : (pl.length : Int) < (N : Int) := by omega
    have hneb : ((pl.length : Int) != K + M) = true := by
      have : (pl.length : Int) ≠ K + M := by omega
      simpa using this
    have hKM2 : -1000 ≤ K + M ∧ K + M ≤ 1000 := by omega
    clear hok hN hS h h2 h3 hle hneq hKM
    go_enter Tryd.func56, Tryd.ntmps56
    go_wp2_with fail
    have hwb := HWB.out
    rw [← hwb]
    clear hwb
    refine HSM.out.mono ?_
    rintro e w3 ⟨Al, cl, rfl, hAl, hlc, hnil, hb3⟩
    have hk03 := (hb3.cell (p := ⟨w.heap.size, 0, none⟩) (block_lt hk0)).trans hk0
    have hk13 := (hb3.cell (p := ⟨w.heap.size, 1, none⟩) (block_lt hk1)).trans hk1
    clear hk0 hk1
    go_wp2_with fail
    go_ret
    exact ⟨rfl, hB2.trans (hb3.mono hB2.size)⟩

theorem right_x {w : World} {K M : Int} {N cS : Nat} {S : Option Addr} {LL : List (List B8)} (hS : LAt w S LL) (hN : N = LL.length) (hcS : N ≤ cS) (hc : ∀ l, l ∈ LL → l.length ≤ 1000) (hF : FoldAt w) :
    Calls Tryd.prog 45 #[.agg #[.int .i64 K, .int .i64 M], .slice S N cS] w (RetV w (.bool (rightB K M LL))) := by
  by_cases h : okS K M LL = true ∧ (presL LL LL.length).length = LL.length
  · obtain ⟨⟨c1, c2, c3, c4⟩, h2, h3⟩ := okS_true h.1
    obtain ⟨K, rfl⟩ := Int.eq_ofNat_of_zero_le (by omega : 0 ≤ K)
    obtain ⟨M, rfl⟩ := Int.eq_ofNat_of_zero_le (by omega : 0 ≤ M)
    have hall := all_there h.2 h3
    have he : rightB (K : Int) (M : Int) LL = decide (rowsL N (widP LL) (mulM K (genM K) (mxOf LL)) = rowsL N (widP LL) (mxOf LL)) := by
      unfold rightB
      rw [h.1, decide_eq_true h.2, rowsL_of hN.symm hall, hN]
      rfl
    rw [he]
    exact right_calls (hS.mat hN.symm hall) (by omega) (by omega) (by omega) (widP_pos (by omega)) (widP_le hc) hcS hF
  · have he : rightB K M LL = false := by
      unfold rightB
      cases hk : okS K M LL with
      | false => rfl
      | true =>
        rw [decide_eq_false (fun h2 => h ⟨hk, h2⟩)]
        rfl
    rw [he]
    exact right_no1 hS hN h

set_option maxHeartbeats 2000000 in
set_option maxRecDepth 100000 in
theorem rright_calls {w : World} {K M N c cS : Nat} {S : Option Addr} {LL : List (List B8)} {P : Mx} (hSS : LAt w S LL) (hNL : N = LL.length) (hP : LL = rowsL N c P) (hN : N = K + M) (hK : 1 ≤ K) (hKM : K + M ≤ 255) (hc : 0 < c) (hc2 : c ≤ 1000) (hcS : N ≤ cS) (hok : okS (K : Int) (M : Int) LL = true) (hall : (presL LL N).length = N) :
    Calls Tryd.prog 56 #[.agg #[.int .i64 (K : Int), .int .i64 (M : Int)], .slice S N cS] w (RetV w (.bool (decide (rowsL N c (mulM K (genM K) P) = LL)))) := by
  obtain ⟨wa, hwa, hb1, hk0, hk1, hs1⟩ := code_box w (K : Int) (M : Int)
  have HWA := Lib.hid hwa
  clear hwa
  have HSM := Lib.hid (rsome_x (w := wa) (K := (K : Int)) (M := (M : Int)) (cS := cS) (hSS.below hb1) hNL)
  rw [hok] at HSM
  generalize presL LL N = pl at *
  have hS : MatAt w S N c P := by
    obtain ⟨vs, h1, h2⟩ := hSS
    exact ⟨vs, h1, by rw [← hP]; exact h2⟩
  have hne : ((pl.length : Int) != (K : Int) + (M : Int)) = false := by simp; omega
  obtain ⟨vs, hS1, hS2⟩ := hS
  obtain ⟨bS, oS, rfl⟩ := some_of_at hS1 (by rw [hS2.1]; simp; omega)
  have hS : MatAt w (some ⟨bS, oS, none⟩) N c P := ⟨vs, hS1, hS2⟩
  have hKN : K ≤ N := by omega
  have hKNi : (K : Int) ≤ (cS : Int) := by omega
  have HN := Lib.hid hN
  generalize hr : decide (rowsL N c (mulM K (genM K) P) = LL) = res
  have HR := Lib.hid hr
  have HPL := Lib.hid hP
  clear hr hN hok hall hNL hP hS1 hS2
  go_enter Tryd.func56, Tryd.ntmps56
  go_wp2_with fail
  have hwa := HWA.out
  rw [← hwa]
  clear hwa
  refine HSM.out.mono ?_
  rintro e w2 ⟨Al, cl, rfl, hAl, hlc, hnil, hb2⟩
  have hB2 := hb1.trans (hb2.mono hb1.size)
  have hk02 := (hb2.cell (p := ⟨w.heap.size, 0, none⟩) (block_lt hk0)).trans hk0
  have hk12 := (hb2.cell (p := ⟨w.heap.size, 1, none⟩) (block_lt hk1)).trans hk1
  clear hk0 hk1 hb1 HSM hAl hlc hnil
  go_wp2_with fail
  have hk0D : w2.drew.cell? ⟨w.heap.size, 0, none⟩ = some (.int .i64 (K : Int)) := hk02
  have hk1D : w2.drew.cell? ⟨w.heap.size, 1, none⟩ = some (.int .i64 (M : Int)) := hk12
  have hBD : Below w.heap.size w w2.drew := hB2.drew
  refine wp_region_held_drew (S := fun w' => w'.cell? ⟨w.heap.size, 0, none⟩ = some (.int .i64 (K : Int)) ∧ w'.cell? ⟨w.heap.size, 1, none⟩ = some (.int .i64 (M : Int))) (by kernel_rfl) ⟨hk0D, hk1D⟩ (fun hHeld => ?_)
  generalize w2.drew = WD at *
  clear hk02 hk12 hB2 hb2
  have hcut : ∀ w, (Instr.sliceAt 24 (.slice (some ⟨bS, oS, none⟩) N cS) none (some (.int .i64 (K : Int))) none).run Tryd.prog w = .ok (.slice (some ⟨bS, oS, none⟩) K cS) w := fun w =>
    cut_heads 0 K (.inl ⟨rfl, rfl⟩) (.inr rfl) (by omega) (by omega) (cutA_zero (by omega)) (by omega) (by omega) w
  refine wpAnyH_take (i := 1) (v := ?_) rfl (by kernel_rfl) (by kernel_rfl) (by kernel_rfl) (fun _ _ _ h => h) (Or.inl ⟨by rfl, ?_⟩) (by assumption) ?_; rotate_left; (intro w hSw; (try dsimp only at hSw); go_simp; (first | done | (with_reducible rfl))); (try simp only [List.getElem_toArray, List.getElem_cons_succ, List.getElem_cons_zero, Act.put, List.setIfInBounds_toArray, List.set_cons_zero, List.set_cons_succ])
  refine wpAnyH_take (i := 2) (v := ?_) rfl (by kernel_rfl) (by kernel_rfl) (by kernel_rfl) (fun _ _ _ h => h) (Or.inl ⟨by rfl, ?_⟩) (by assumption) ?_; rotate_left; (intro w hSw; (try dsimp only at hSw); go_simp; (first | done | (with_reducible rfl))); (try simp only [List.getElem_toArray, List.getElem_cons_succ, List.getElem_cons_zero, Act.put, List.setIfInBounds_toArray, List.set_cons_zero, List.set_cons_succ])
  refine wpAnyH_take (i := 0) (v := ?_) rfl (by kernel_rfl) (by kernel_rfl) (by kernel_rfl) (fun _ _ _ h => h) (Or.inl ⟨by rfl, ?_⟩) (by assumption) ?_; rotate_left; (intro w hSw; (try dsimp only at hSw); go_simp; (first | done | (with_reducible rfl))); (try simp only [List.getElem_toArray, List.getElem_cons_succ, List.getElem_cons_zero, Act.put, List.setIfInBounds_toArray, List.set_cons_zero, List.set_cons_succ])
  refine wpAnyH_take (i := 3) (v := ?_) rfl (by kernel_rfl) (by kernel_rfl) (by kernel_rfl) (fun _ _ _ h => h) (Or.inl ⟨by rfl, ?_⟩) (by assumption) ?_; rotate_left; (intro w hSw; (try dsimp only at hSw); go_simp; (first | done | (with_reducible rfl))); (try simp only [List.getElem_toArray, List.getElem_cons_succ, List.getElem_cons_zero, Act.put, List.setIfInBounds_toArray, List.set_cons_zero, List.set_cons_succ])
  refine wpAnyH_take (i := 4) (v := ?_) rfl (by kernel_rfl) (by kernel_rfl) (by kernel_rfl) (fun _ _ _ h => h) (Or.inl ⟨by rfl, ?_⟩) (by assumption) ?_; rotate_left; (intro w hSw; (try dsimp only at hSw); go_simp; (first | done | (with_reducible rfl))); (try simp only [List.getElem_toArray, List.getElem_cons_succ, List.getElem_cons_zero, Act.put, List.setIfInBounds_toArray, List.set_cons_zero, List.set_cons_succ])
  refine wpAnyH_ready (rs := [5]) (by kernel_rfl) (by simp) ?_; refine AllReadyH.cons rfl (fun KK hKK => ?_) AllReadyH.nil
  go_simp
  refine (rencode_calls (cS := cS) ((hS.take hKN).below hBD) hK hKM hc hc2).mono ?_
  rintro e w5 ⟨A5, c5, v5, rfl, hX1, hX2, hb5⟩
  rw [length_rowsL]
  go_wp2_with fail
  refine hKK.out _ _ ⟨(hb5.cell (p := ⟨w.heap.size, 0, none⟩) (block_lt hk0D)).trans hk0D, (hb5.cell (p := ⟨w.heap.size, 1, none⟩) (block_lt hk1D)).trans hk1D⟩ (fun hHeld => ?_)
  clear hKK KK
  (try simp only [List.getElem_toArray, List.getElem_cons_succ, List.getElem_cons_zero, Act.put, List.setIfInBounds_toArray, List.set_cons_zero, List.set_cons_succ])
  refine wpAnyH_take (i := 6) (v := ?_) rfl (by kernel_rfl) (by kernel_rfl) (by kernel_rfl) (fun _ _ _ h => h) (Or.inl ⟨by rfl, ?_⟩) (by assumption) ?_; rotate_left; (intro w hSw; (try dsimp only at hSw); go_simp; (first | done | (with_reducible rfl))); (try simp only [List.getElem_toArray, List.getElem_cons_succ, List.getElem_cons_zero, Act.put, List.setIfInBounds_toArray, List.set_cons_zero, List.set_cons_succ])
  refine wpAnyH_take (i := 7) (v := ?_) rfl (by kernel_rfl) (by kernel_rfl) (by kernel_rfl) (fun _ _ _ h => h) (Or.inl ⟨by rfl, ?_⟩) (by assumption) ?_; rotate_left; (intro w hSw; (try dsimp only at hSw); go_simp; (first | done | (with_reducible rfl))); (try simp only [List.getElem_toArray, List.getElem_cons_succ, List.getElem_cons_zero, Act.put, List.setIfInBounds_toArray, List.set_cons_zero, List.set_cons_succ])
  refine wpAnyH_take (i := 8) (v := ?_) rfl (by kernel_rfl) (by kernel_rfl) (by kernel_rfl) (fun _ _ _ h => h) (Or.inl ⟨by rfl, ?_⟩) (by assumption) ?_; rotate_left; (intro w hSw; (try dsimp only at hSw); go_simp; (first | done | (with_reducible rfl))); (try simp only [List.getElem_toArray, List.getElem_cons_succ, List.getElem_cons_zero, Act.put, List.setIfInBounds_toArray, List.set_cons_zero, List.set_cons_succ])
  refine wpAnyH_take (i := 9) (v := ?_) rfl (by kernel_rfl) (by kernel_rfl) (by kernel_rfl) (fun _ _ _ h => h) (Or.inl ⟨by rfl, ?_⟩) (by assumption) ?_; rotate_left; (intro w hSw; (try dsimp only at hSw); go_simp; (first | done | (with_reducible rfl))); (try simp only [List.getElem_toArray, List.getElem_cons_succ, List.getElem_cons_zero, Act.put, List.setIfInBounds_toArray, List.set_cons_zero, List.set_cons_succ])
  refine wpAnyH_take (i := 10) (v := ?_) rfl (by kernel_rfl) (by kernel_rfl) (by kernel_rfl) (fun _ _ _ h => h) (Or.inl ⟨by rfl, ?_⟩) (by assumption) ?_; rotate_left; (intro w hSw; (try dsimp only at hSw); go_simp; (first | done | (with_reducible rfl))); (try simp only [List.getElem_toArray, List.getElem_cons_succ, List.getElem_cons_zero, Act.put, List.setIfInBounds_toArray, List.set_cons_zero, List.set_cons_succ])
  refine wpAnyH_done (by kernel_rfl) ?_ _
  have hB5 := hBD.trans (hb5.mono hBD.size)
  have HSS : Hid (Calls Tryd.prog 84 #[.slice A5 (K + M) c5, .slice (some ⟨bS, oS, none⟩) N cS] w5 (RetV w5 (.bool res))) := by
    obtain ⟨vs, h1, h2⟩ := hSS.below hB5
    have h := rsame_calls (a := c5) (b := cS) (n := K + M) (m := N) hX1 hX2 h1 h2 (by simp) (by rw [HPL.out]; simp) (by simp; omega)
    rw [← HN.out, HR.out] at h
    rw [← HN.out]
    exact h
  clear hHeld hcut hX1 hX2 hSS hS
  go_wp2_with fail
  refine HSS.out.mono ?_
  rintro e w6 ⟨rfl, hb6⟩
  go_wp2_with fail
  go_ret
  exact ⟨rfl, hB5.trans (hb6.mono hB5.size)⟩
theorem rright_x {w : World} {K M : Int} {N cS : Nat} {S : Option Addr} {LL : List (List B8)} (hS : LAt w S LL) (hN : N = LL.length) (hcS : N ≤ cS) (hc : ∀ l, l ∈ LL → l.length ≤ 1000) :
    Calls Tryd.prog 56 #[.agg #[.int .i64 K, .int .i64 M], .slice S N cS] w (RetV w (.bool (rightB K M LL))) := by
  by_cases h : okS K M LL = true ∧ (presL LL LL.length).length = LL.length
  · obtain ⟨⟨c1, c2, c3, c4⟩, h2, h3⟩ := okS_true h.1
    obtain ⟨K, rfl⟩ := Int.eq_ofNat_of_zero_le (by omega : 0 ≤ K)
    obtain ⟨M, rfl⟩ := Int.eq_ofNat_of_zero_le (by omega : 0 ≤ M)
    have hall := all_there h.2 h3
    have he : rightB (K : Int) (M : Int) LL = decide (rowsL N (widP LL) (mulM K (genM K) (mxOf LL)) = LL) := by
      unfold rightB
      rw [h.1, decide_eq_true h.2, hN]
      rfl
    rw [he]
    exact rright_calls hS hN (rowsL_of hN.symm hall).symm (by omega) (by omega) (by omega) (widP_pos (by omega)) (widP_le hc) hcS h.1 (by rw [hN]; exact h.2)
  · have he : rightB K M LL = false := by
      unfold rightB
      cases hk : okS K M LL with
      | false => rfl
      | true =>
        rw [decide_eq_false (fun h2 => h ⟨hk, h2⟩)]
        rfl
    rw [he]
    exact rright_no1 hS hN h

end Go.Proofs.YtibidlgikecelaaDoor
