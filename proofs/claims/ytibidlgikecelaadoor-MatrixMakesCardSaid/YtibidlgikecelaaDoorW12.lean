/- Contracts: SameTexts; words for rows that were appended. -/
import Derived.Test.YtibidlgikecelaaDoorW10
namespace Go.Proofs.YtibidlgikecelaaDoor
open Go.RowKit
set_option linter.unusedVariables false
set_option linter.unusedSimpArgs false

set_option maxHeartbeats 400000 in
set_option maxRecDepth 100000 in
theorem eqt_calls {w : World} {A B : Option Addr} {n m a b : Nat} {vA vB : List Value} {L K : List (List B8)} (hA : At w A vA) (hLA : Texts w vA L) (hB : At w B vB) (hLB : Texts w vB K) (hn : n = L.length) (hm : m = K.length) (hmax : L.length ≤ 1000000000000) :
    Calls Tryd.prog 62 #[.slice A n a, .slice B m b, .func (.func 51) #[] #[]] w fun e w' => e = .returned (.bool (decide (L = K))) ∧ w = w' := by
  subst hn hm
  by_cases hlen : L.length = K.length
  · have hne : ((L.length : Int) != (K.length : Int)) = false := by simp; omega
    have HLen := Lib.hid hlen
    clear hlen
    generalize hr : decide (L = K) = r
    have HR := Lib.hid hr
    clear hr
    go_enter Tryd.func62, Tryd.ntmps62
    go_wp2_with fail
    go_loop [17] (fun s => ∃ j : Nat, j ≤ L.length ∧ s = .int .i64 ((j : Nat) : Int) ∧ ∀ i, i < j → L[i]? = K[i]?) (fun s => L.length - (intOf s).toNat)
    case atStart => exact ⟨0, by omega, rfl, by intro i hi; omega⟩
    case round =>
      obtain ⟨j, hj, rfl, hall⟩ := hrel
      have HALL := Lib.hid hall
      clear hall
      by_cases hjl : j < L.length
      · have hji : (j : Int) < (L.length : Int) := by omega
        have hjk : j < K.length := by have := HLen.out; omega
        have hjki : (j : Int) < (K.length : Int) := by omega
        have hlA : L[j]? = some L[j] := List.getElem?_eq_getElem hjl
        have hlB : K[j]? = some K[j] := List.getElem?_eq_getElem hjk
        obtain ⟨ba, oa, rfl, hba⟩ := heads_some hA hLA (by omega)
        obtain ⟨bb, ob, rfl, hbb⟩ := heads_some hB hLB (by omega)
        generalize L[j] = l at *
        generalize K[j] = k at *
        obtain ⟨X, cx, hcx, hX, _, _⟩ := head_at hA hLA hlA
        obtain ⟨Y, cy, hcy, hY, _, _⟩ := head_at hB hLB hlB
        have HLA := Lib.hid hlA
        have HLB := Lib.hid hlB
        have HC := equal_calls (c := cx) (d := cy) hX hY rfl rfl
        clear hlA hlB
        by_cases hlk : l = k
        · rw [decide_eq_true hlk] at HC
          have HLK := Lib.hid hlk
          replace HC := Lib.hid HC
          clear hlk
          go_wp2_with fail
          refine HC.out.mono ?_
          rintro e w' ⟨rfl, rfl⟩
          go_wp2_with fail
          refine ⟨⟨j + 1, by omega, by go_num, fun i hi => ?_⟩, by simp [intOf]; omega⟩
          by_cases hij : i < j
          · exact HALL.out i hij
          · obtain rfl : i = j := by omega
            rw [HLA.out, HLB.out, HLK.out]
        · rw [decide_eq_false hlk] at HC
          have HLK := Lib.hid hlk
          replace HC := Lib.hid HC
          clear hlk
          go_wp2_with fail
          refine HC.out.mono ?_
          rintro e w' ⟨rfl, rfl⟩
          go_wp2_with fail
          go_ret
          refine ⟨ret_bool ?_, rfl⟩
          rw [← HR.out]
          refine (decide_eq_false fun he => HLK.out ?_).symm
          have := HLA.out
          rw [he, HLB.out] at this
          exact (Option.some.inj this).symm
      · obtain rfl : j = L.length := by omega
        go_wp2_with fail
        go_ret
        refine ⟨ret_bool ?_, rfl⟩
        rw [← HR.out]
        refine (decide_eq_true ?_).symm
        apply List.ext_getElem?
        intro i
        by_cases hi : i < L.length
        · exact HALL.out i hi
        · rw [List.getElem?_eq_none (by omega), List.getElem?_eq_none (by have := HLen.out; omega)]
  · have hne : ((L.length : Int) != (K.length : Int)) = true := by simp; omega
    rw [decide_eq_false (fun h : L = K => hlen (by rw [h]))]
    clear hlen
    go_enter Tryd.func62, Tryd.ntmps62
    go_wp2_with fail
    go_ret
    exact ⟨rfl, rfl⟩

set_option maxHeartbeats 400000 in
theorem sametexts_calls {w : World} {A B : Option Addr} {n m a b : Nat} {vA vB : List Value} {L K : List (List B8)} (hA : At w A vA) (hLA : Texts w vA L) (hB : At w B vB) (hLB : Texts w vB K) (hn : n = L.length) (hm : m = K.length) (hmax : L.length ≤ 1000000000000) :
    Calls Tryd.prog 26 #[.slice A n a, .slice B m b] w fun e w' => e = .returned (.bool (decide (L = K))) ∧ w = w' := by
  have HC := Lib.hid (eqt_calls (a := a) (b := b) hA hLA hB hLB hn hm hmax)
  generalize decide (L = K) = r at *
  subst hn hm
  go_enter Tryd.func26, Tryd.ntmps26
  go_wp2_with fail
  refine HC.out.mono ?_
  rintro e w' ⟨rfl, rfl⟩
  go_wp2_with fail
  go_ret
  exact ⟨rfl, rfl⟩

/-- append(heads, head...) -/
theorem wp_app_head {w : World} {o : Oper} {a : Act} {K : Act → World → Prop} {Q : Exit → Act → World → Prop}
    (s x : Operand) (hop : o.op = Op.call { callee := Callee.builtin Builtin.append, args := #[s, x], argTypes := #[24, 24] })
    (base : Nat) {v : Value} {n : Nat} {xs : List Value} (hs : a.eval s = v) (hown : w.ownsRow base 22 1 v n xs)
    {A : Option Addr} {m c : Nat} (hx : a.eval x = .slice A m c) {news : List Value} (hl : news.length = m) (hA : At w A news) (h1 : ∀ u ∈ news, u.oneCell' = true)
    (hnil : A = none → c = 0) (hbytes : n + m ≤ 1000000000000) (hbase : base ≤ w.heap.size)
    (hK : ∀ A' c' w', w'.ownsRow base 22 1 (.slice A' (n + m) c') (n + m) (xs ++ news) → Below base w w' → w.grownBy w' v.ownBlock → n + m ≤ c' →
      K (a.put o.dst (.slice A' (n + m) c')) w') :
    o.wp Tryd.prog a w K Q := by
  obtain ⟨i, hi, hz0, hz1, hz2⟩ := info_parts headinfo
  exact wp_app w s x 24 hop base 22 i (.slice none 0 0) 1 24 Tryd.underlying24 hi hz0 hz1 hz2 rfl (by decide) v n xs hs hown A m c hx news (by simpa using hl) hA h1 hnil
    (by unfold maxLen; omega) (by omega) hbase fun A' c' w' h1 h2 h3 h4 => hK A' c' w' h1 h2 h3.1 h4
theorem app_head {w : World} {ops : Array Oper} {rest : List Oper} {o : Oper} {a : Act} {Q : Exit → Act → World → Prop}
    (hg : o.guard = none) (s x : Operand) (hop : o.op = Op.call { callee := Callee.builtin Builtin.append, args := #[s, x], argTypes := #[24, 24] })
    (base : Nat) {v : Value} {n : Nat} {xs : List Value} (hs : a.eval s = v) (hown : w.ownsRow base 22 1 v n xs)
    {A : Option Addr} {m c : Nat} (hx : a.eval x = .slice A m c) {news : List Value} (hl : news.length = m) (hA : At w A news) (h1 : ∀ u ∈ news, u.oneCell' = true)
    (hnil : A = none → c = 0) (hbytes : n + m ≤ 1000000000000) (hbase : base ≤ w.heap.size)
    (hK : ∀ A' c' w', w'.ownsRow base 22 1 (.slice A' (n + m) c') (n + m) (xs ++ news) → Below base w w' → w.grownBy w' v.ownBlock → n + m ≤ c' →
      wpList Tryd.prog ops Q rest (a.put o.dst (.slice A' (n + m) c')) w') :
    wpList Tryd.prog ops Q (o :: rest) a w :=
  wpList_plain hg fun _ hK' => wp_app_head s x hop base hs hown hx hl hA h1 hnil hbytes hbase fun A' c' w' h1 h2 h3 h4 => hK' _ _ (hK A' c' w' h1 h2 h3 h4)

/-- Rows of one's own, their heads in a slice of one's own. -/
structure OwnG (w : World) (B : Nat) (A : Option Addr) (cap : Nat) (blk : Nat → Nat) (r c : Nat) (M : Mx) : Prop where
  own : w.ownsRow B 22 1 (.slice A r cap) r (headsV blk r c)
  row : ∀ i, i < r → RowB w (blk i) (rowL c (M i))
  inj : ∀ i j, i < r → j < r → blk i = blk j → i = j
  geB : ∀ i, i < r → B ≤ blk i

theorem RowB.ne_own {w : World} {k B sz n : Nat} {l : List B8} {v : Value} {xs : List Value} (h : RowB w k l) (ho : w.ownsRow B 22 sz v n xs) : some k ≠ v.ownBlock := by
  intro he
  rcases ho.2 with ⟨rfl, _⟩ | ⟨g, cap, cur, rfl, _, hg, _⟩
  · cases he
  · simp only [Value.ownBlock, Option.some.injEq] at he
    unfold RowB at h
    rw [he, hg] at h
    injection h with h
    injection h with _ h _
    exact absurd h (by decide)
section
variable {w w' : World} {B r c cap : Nat} {A : Option Addr} {blk : Nat → Nat} {M : Mx}
theorem OwnG.nil (w : World) (B c : Nat) (blk : Nat → Nat) (M : Mx) : OwnG w B none 0 blk 0 c M :=
  ⟨World.ownsRow_nil _ _ _ _, fun i hi => absurd hi (Nat.not_lt_zero _), fun i j hi => absurd hi (Nat.not_lt_zero _), fun i hi => absurd hi (Nat.not_lt_zero _)⟩
theorem OwnG.at (h : OwnG w B A cap blk r c M) : At w A (headsV blk r c) := own_at h.own
theorem OwnG.texts (h : OwnG w B A cap blk r c M) (hm : c ≤ 140737488351232) : Texts w (headsV blk r c) (rowsL r c M) := by
  refine ⟨by simp, ?_⟩
  intro i v l h1 h2
  have hi : i < r := by
    rcases Nat.lt_or_ge i r with h | h
    · exact h
    · rw [List.getElem?_eq_none (by simpa using h)] at h1; cases h1
  rw [headsV_get hi] at h1
  rw [rowsL_get hi] at h2
  cases h1; cases h2
  exact (h.row i hi).row (by simp) hm
theorem OwnG.below (h : OwnG w B A cap blk r c M) (hb : Below w.heap.size w w') : OwnG w' B A cap blk r c M :=
  ⟨own_below h.own hb, fun i hi => (h.row i hi).below hb (h.row i hi).lt, h.inj, h.geB⟩
theorem OwnG.lower (h : OwnG w B A cap blk r c M) {B' : Nat} (hB : B' ≤ B) : OwnG w B' A cap blk r c M :=
  ⟨own_lower h.own hB, h.row, h.inj, fun i hi => Nat.le_trans hB (h.geB i hi)⟩
theorem OwnG.congr (h : OwnG w B A cap blk r c M) {N : Mx} (hN : EqM r c M N) : OwnG w B A cap blk r c N :=
  ⟨h.own, fun i hi => by have := h.row i hi; rwa [rowL_congr (fun j hj => hN i j hi hj)] at this, h.inj, h.geB⟩
theorem OwnG.le (h : OwnG w B A cap blk r c M) : r ≤ cap := own_le h.own
theorem OwnG.nilA (h : OwnG w B A cap blk r c M) : A = none → cap = 0 := own_nil h.own
/-- A row is changed. -/
theorem OwnG.setRow (h : OwnG w B A cap blk r c M) {i : Nat} (hi : i < r) {f : Nat → B8} (hg : w.grownBy w' (some (blk i))) (hr : RowB w' (blk i) (rowL c f)) :
    OwnG w' B A cap blk r c (putR M i f) := by
  refine ⟨h.own.kept hg ?_, fun k hk => ?_, h.inj, h.geB⟩
  · cases hv : (Value.slice A r cap).ownBlock with
    | none => exact .inl rfl
    | some b => right; intro he; exact (h.row i hi).ne_own h.own (by rw [hv, he])
  · by_cases hki : k = i
    · subst hki
      show RowB w' (blk k) (rowL c (if k = k then f else M k))
      rw [if_pos rfl]; exact hr
    · show RowB w' (blk k) (rowL c (if k = i then f else M k))
      rw [if_neg hki]
      exact (h.row k hk).grown hg (by simpa using fun he => hki (h.inj k i hk hi he))
/-- A head's cell. -/
theorem OwnG.cell (h : OwnG w B A cap blk r c M) {i : Nat} (hi : i < r) : ∃ g, A = some ⟨g, 0, none⟩ ∧ B ≤ g ∧ w.cell? ⟨g, i, none⟩ = some (.slice (some ⟨blk i, 0, none⟩) c c) ∧ (∀ k, k < r → blk k ≠ g) ∧ w.frozen? ⟨g, i, none⟩ = false := by
  obtain ⟨b, off, he, hc⟩ := h.at i _ (headsV_get hi)
  rcases h.own.2 with ⟨hv, hn⟩ | ⟨g, cap', cur, hv, hg, hh, hnc, hcm, hs, ht⟩
  · subst hn; exact absurd hi (Nat.not_lt_zero _)
  · injection hv with hA hn hc'
    subst hA
    simp only [Option.some.injEq, Addr.mk.injEq, and_true] at he
    obtain ⟨hb1, hb2⟩ := he
    rw [← hb1, ← hb2, Nat.zero_add] at hc
    refine ⟨g, rfl, hg, hc, fun k hk hkg => ?_, h.own.frozenAt i⟩
    exact (h.row k hk).ne_own h.own (by rw [hkg]; rfl)
/-- One more row. -/
theorem OwnG.snoc {A' : Option Addr} {cap' rb : Nat} {f : Nat → B8} (h : OwnG w B A cap blk r c M) (hr : RowB w rb (rowL c f)) (hrb : B ≤ rb) (hne : ∀ i, i < r → blk i ≠ rb)
    (ho : w'.ownsRow B 22 1 (.slice A' (r + 1) cap') (r + 1) (headsV blk r c ++ [.slice (some ⟨rb, 0, none⟩) c c])) (hg : w.grownBy w' (Value.slice A r cap).ownBlock) (hM : M r = f) :
    OwnG w' B A' cap' (fun k => if k = r then rb else blk k) (r + 1) c M := by
  have hv : headsV blk r c ++ [.slice (some ⟨rb, 0, none⟩) c c] = headsV (fun k => if k = r then rb else blk k) (r + 1) c := by
    unfold headsV
    rw [List.range_succ, List.map_append]
    congr 1
    · refine List.map_congr_left fun k hk => ?_
      have : k ≠ r := by have : k < r := by simpa using hk
                         omega
      simp [this]
    · simp
  rw [hv] at ho
  refine ⟨ho, fun k hk => ?_, fun i j hi hj he => ?_, fun k hk => ?_⟩
  · by_cases hkr : k = r
    · subst hkr; simp only [if_true, hM]; exact hr.grown hg (hr.ne_own h.own)
    · simp only [if_neg hkr]; exact (h.row k (by omega)).grown hg ((h.row k (by omega)).ne_own h.own)
  · by_cases hir : i = r <;> by_cases hjr : j = r
    · omega
    · simp only [hir, hjr, if_true, if_false] at he; exact absurd he.symm (hne j (by omega))
    · simp only [hir, hjr, if_true, if_false] at he; exact absurd he (hne i (by omega))
    · simp only [hir, hjr, if_false] at he; exact h.inj i j (by omega) (by omega) he
  · by_cases hkr : k = r
    · subst hkr; simp only [if_true]; exact hrb
    · simp only [if_neg hkr]; exact h.geB k (by omega)
theorem Grid.ownG {g : Nat} (h : Grid w B g blk r c M) (hm : r ≤ maxLen) : OwnG w B (some ⟨g, 0, none⟩) r blk r c M :=
  ⟨⟨by simp, .inr ⟨g, r, _, rfl, h.geG, h.top, Nat.le_refl _, hm, by simp, by simp [List.take_of_length_le]⟩⟩, h.row, h.inj, h.geB⟩
end

end Go.Proofs.YtibidlgikecelaaDoor
