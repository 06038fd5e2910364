/- append and Unwrap where the bytes are a little more than half the memory. -/
import Derived.Test.YtfcacplecapgfaaF5
namespace Go.Proofs.Ytfcacplecapgfaa
open Go.RowKit
set_option linter.unusedVariables false
set_option linter.unusedSimpArgs false

theorem near_fits {need old : Nat} (h : old < need) (hb : need ≤ 140737488371712) : Builtin.nextslicecap need old ≤ 281474976710656 := by
  unfold Builtin.nextslicecap
  split
  · omega
  · split
    · omega
    · rw [growBy_four]
      repeat' split
      all_goals omega
set_option maxRecDepth 100000 in
/-- append(own bytes, bytes...), a little further. -/
theorem run_app_near {w : World} {base n m c : Nat} {ty : TypeId} {v : Value} {xs news : List B8} {A : Option Addr} (hown : w.ownsRow base 5 1 v n (bys xs)) (hl : news.length = m) (hA : At w A (bys news)) (hnil : A = none → c = 0)
    (hn : 0 < n) (hn2 : n ≤ 140737488355328) (hbytes : n + m ≤ 140737488371712) (hbase : base ≤ w.heap.size) :
    ∃ A' c' w', (Builtin.append_ #[28, 28] ty #[v, .slice A m c]).run Try.prog w = .ok (.slice A' (n + m) c') w' ∧ w'.ownsRow base 5 1 (.slice A' (n + m) c') (n + m) (bys (xs ++ news)) ∧ w.grownBy w' v.ownBlock ∧ n + m ≤ c' ∧
      ((Value.slice A' (n + m) c').ownBlock = v.ownBlock ∨ (Value.slice A' (n + m) c').ownBlock = some w.heap.size) := by
  obtain ⟨i, hi, hz0, hz1, hz2⟩ := info_parts u8info
  have hml : n + m ≤ maxLen := by unfold maxLen; omega
  by_cases hle : n + m ≤ 140737488355328
  · obtain ⟨A', c', w', h1, h2, h3, h4, h5⟩ := run_app (P := Try.prog) w base 28 ty 5 i (.int .u8 0) 1 1 Try.underlying28 hi hz0 hz1 hz2 rfl (by decide) v n (bys xs) hown A m c (bys news) (by simpa using hl) hA (bys_one _) hnil hml (by omega) hbase
    rw [← bys_append] at h2
    exact ⟨A', c', w', h1, h2, h3, h4, h5⟩
  · obtain ⟨b, off, rfl⟩ : ∃ b off, A = some ⟨b, off, none⟩ := by
      have hl0 : 0 < (bys news).length := by rw [length_bys, hl]; omega
      obtain ⟨b, off, he, _⟩ := hA 0 ((bys news)[0]'hl0) (List.getElem?_eq_getElem hl0)
      exact ⟨b, off, he⟩
    have hnews : ∀ j u, (bys news)[j]? = some u → w.cell? ((⟨b, off, none⟩ : Addr).add j) = some u := hA.add
    have hl1 : (bys news).length = m * i.size := by rw [hz1]; simpa using hl
    have hlen : (bys xs ++ bys news).length = (n + m) * 1 := by rw [List.length_append, hown.1]; simp; omega
    rw [bys_append]
    have hx1 := hown.1
    rcases hown.2 with ⟨_, h0⟩ | ⟨g, cap, cur, rfl, hbg, hg, hnc, hcm, hcs, htake⟩
    · omega
    · by_cases hroom : n + m ≤ cap
      · have hfit : n * i.size + (bys news).length ≤ cur.size := by rw [hl1, hz1, hcs]; omega
        have hr := run_append_room (P := Try.prog) w 28 ty 5 i Try.underlying28 hi g n cap cur hg ⟨b, off, none⟩ m c (bys news) hl1 hnews (bys_one _) hroom hfit
        refine ⟨_, _, _, hr, ⟨hlen, .inr ⟨g, cap, _, rfl, hbg, setRow_heap w g cur _ _ _ hg, hroom, hcm, ?_, ?_⟩⟩, ⟨rfl, rfl, rfl, by simp, fun k _ hk => setRow_other w g k _ (fun e => hk (by simp [Value.ownBlock, e]))⟩, hroom, .inl rfl⟩
        · have h2 : (bys news).length = m := by simpa using hl
          rw [hz1] at *
          simp only [List.size_toArray, List.length_append, List.length_take, List.length_drop, Array.length_toList, hcs]
          omega
        · have ht2 : cur.toList.take (n * i.size) = bys xs := by rw [hz1]; simpa using htake
          simp only [ht2]
          rw [← hlen]
          exact List.take_left
      · have holds : ∀ j u, (bys xs)[j]? = some u → w.cell? ((⟨g, 0, none⟩ : Addr).add j) = some u := hown.cells (g := g) rfl
        have hfit2 : Builtin.nextslicecap (n + m) cap * i.bytes ≤ 281474976710656 := by rw [hz2, Nat.mul_one]; exact near_fits (by omega) hbytes
        have hr := run_append_grow (P := Try.prog) w 28 ty 5 i (.int .u8 0) Try.underlying28 hi hz0 ⟨g, 0, none⟩ n cap (bys xs) (by rw [hz1]; exact hx1) holds ⟨b, off, none⟩ m c (bys news) hl1 hnews (by omega) (by unfold maxLen at hml; omega) hfit2
        have hge := grownCap_ge w (n + m) cap 5
        refine ⟨_, _, _, hr, ⟨hlen, .inr ⟨w.heap.size, _, _, rfl, hbase, heap_alloc_new w.drew _, hge, grownCap_le_maxLen w (n + m) cap 5 hml, ?_, ?_⟩⟩, ⟨rfl, rfl, rfl, by simp, fun k hk _ => ((Below.refl w.drew.heap.size w.drew).alloc (Nat.le_refl _) _).block k hk⟩, hge, .inr rfl⟩
        · have h2 : (bys news).length = m := by simpa using hl
          have h3 : (bys xs).length = n := by rw [hx1]; omega
          simp only [Array.size_append, List.size_toArray, size_zeroCells, h2, h3]
          show n + m + _ * 1 = _
          omega
        · simp only [Array.toList_append, List.append_assoc]
          rw [← List.append_assoc, ← hlen]
          exact List.take_left
theorem app_near {w : World} {ops : Array Oper} {rest : List Oper} {o : Oper} {a : Act} {Q : Exit → Act → World → Prop}
    (hg : o.guard = none) (s x : Operand) (hop : o.op = Op.call { callee := Callee.builtin Builtin.append, args := #[s, x], argTypes := #[28, 28] })
    (base : Nat) {v : Value} {n : Nat} {xs : List B8} (hs : a.eval s = v) (hown : w.ownsRow base 5 1 v n (bys xs))
    {A : Option Addr} {m c : Nat} (hx : a.eval x = .slice A m c) {news : List B8} (hl : news.length = m) (hA : At w A (bys news))
    (hnil : A = none → c = 0) (hn : 0 < n) (hn2 : n ≤ 140737488355328) (hbytes : n + m ≤ 140737488371712) (hbase : base ≤ w.heap.size)
    (hK : ∀ A' c' w', w'.ownsRow base 5 1 (.slice A' (n + m) c') (n + m) (bys (xs ++ news)) → Below base w w' → w.grownBy w' v.ownBlock ∧ ((Value.slice A' (n + m) c').ownBlock = v.ownBlock ∨ (Value.slice A' (n + m) c').ownBlock = some w.heap.size) → n + m ≤ c' →
      wpList Try.prog ops Q rest (a.put o.dst (.slice A' (n + m) c')) w') :
    wpList Try.prog ops Q (o :: rest) a w := by
  refine wpList_plain hg fun _ hK' => ?_
  obtain ⟨A', c', w', hrun, r1, r2, r3, r4⟩ := run_app_near (ty := o.type) hown hl hA hnil hn hn2 hbytes hbase
  unfold Oper.wp
  simp [execOp, hop, resolve, invoke, builtin, hs, hx, hrun, Result.andThen]
  exact hK' _ _ (hK A' c' w' r1 ((Below.refl base w).grown r2 hbase fun k hk => (hown.lt k hk).1) ⟨r2, r4⟩ r3)

set_option maxHeartbeats 1000000 in
theorem unwrap_near {w : World} {A : Option Addr} {n c : Nat} {l : List B8} (hA : At w A (bys l)) (hn : n = l.length) (hnc : n ≤ c) (hnil : A = none → c = 0) (hmax : l.length ≤ 140737488371712) (hrest0 : ∀ (h1 : 1 < l.length) (h2 : 2 < l.length), l.length - ((l[1]'h1).toNat * 256 + (l[2]'h2).toNat + 7) ≤ 140737488355328) :
    Calls Try.prog 21 #[.slice A n c] w (RetU w (unwrapF l)) := by
  subst hn
  have U := unwrapAt l
  have HRS := Lib.hid hrest0
  clear hrest0
  by_cases h0 : l.length = 0
  · have hl : l = [] := List.eq_nil_of_length_eq_zero h0
    subst hl
    clear hA h0 hmax hnc HRS
    go_enter Try.func21, Try.ntmps21
    go_wp2
    go_ret3
    exact RetU.bad rfl
  obtain ⟨b, off, rfl, hc0⟩ := hA.byte (k := 0) (by omega)
  have hpos : 0 < l.length := by omega
  have hb0 : (0 : Int) < (l.length : Int) := by omega
  rw [Nat.add_zero] at hc0
  by_cases h1 : l[0]'(by omega) = 0xa3#8
  · rw [h1] at hc0
    replace hc0 : w.cell? { block := b, off := off } = some (Value.int IntKind.u8 163) := hc0
    by_cases h2 : l.length < 3
    · have hr := Lib.hid (U.bad2 hpos h1 h2)
      clear U hA
      go_enter Try.func21, Try.ntmps21
      go_wp2
      go_ret3
      exact RetU.bad hr.out
    obtain ⟨b', off', hbo, hc1⟩ := hA.byte (k := 1) (by omega)
    obtain ⟨b'', off'', hbo2, hc2⟩ := hA.byte (k := 2) (by omega)
    simp only [Option.some.injEq, Addr.mk.injEq, and_true] at hbo hbo2
    obtain ⟨rfl, rfl⟩ := hbo
    obtain ⟨rfl, rfl⟩ := hbo2
    have hos := or_shl (l[1]'(by omega)) (l[2]'(by omega))
    have hlt : (l[1]'(by omega)).toNat * 256 + (l[2]'(by omega)).toNat < 65536 := by
      have := (l[1]'(by omega)).isLt
      have := (l[2]'(by omega)).isLt
      omega
    have U3 := Lib.hid (U.bad3 (by omega) h1)
    have U4 := Lib.hid (U.bad4 (by omega) h1)
    have U5 := Lib.hid (U.bad5 (by omega) h1)
    have U6 := Lib.hid (U.good (by omega) h1)
    clear U
    have hrest := HRS.out (by omega) (by omega)
    clear HRS
    generalize l[1]'(by omega) = x1 at *
    generalize l[2]'(by omega) = x2 at *
    obtain ⟨N, hN⟩ : ∃ N, N = x1.toNat * 256 + x2.toNat := ⟨_, rfl⟩
    rw [← hN] at hos hlt U3 U4 U5 U6 hrest
    clear hN
    have h2i : (3 : Int) ≤ (l.length : Int) := by omega
    have h2j : (1 : Int) < (l.length : Int) := by omega
    have h2k : (2 : Int) < (l.length : Int) := by omega
    go_enter Try.func21, Try.ntmps21
    go_wp2
    go_quiet (fail)
    have hbq : Below w.heap.size w (w.drewN nq) := belowN nq
    replace hA := hA.below hbq
    clear hc0 hc1 hc2 hos
    generalize w.drewN nq = wq at *
    by_cases hz : N = 0
    · have hz1 : ((N : Int) == 0) = true := by simp [hz]
      go_wp2
      go_ret3
      exact RetU.bad' (U3.out hz) hbq
    have hz1 : ((N : Int) == 0) = false := by simp [hz]
    by_cases h3 : l.length < N + 7
    · go_wp2
      go_ret3
      exact RetU.bad' (U4.out hz h3) hbq
    have hA3 : At wq (some { block := b, off := off }) (bys (l.take (N + 3))) := by rw [← bys_take]; exact hA.take _
    have hA4 : At wq (some { block := b, off := off + (N + 3) }) (bys ((l.drop (N + 3)).take 4)) := by
      have h := (hA.drop (N + 3) c (by simp; omega)).take 4
      rw [bys_drop, bys_take] at h
      unfold cutA at h
      rw [if_neg (by omega)] at h
      simpa [Addr.add] using h
    have e3 : (l.take (N + 3)).length = N + 3 := by rw [List.length_take]; omega
    have e4 : ((l.drop (N + 3)).take 4).length = 4 := by rw [List.length_take, List.length_drop]; omega
    have s1 : (N : Int) + 7 ≤ c := by omega
    have s3 : (N : Int) + 3 ≤ max ((N : Int) + 7) 0 := by omega
    have p1 : (0 : Int) ≤ (N : Int) + 7 := by omega
    have p2 : (0 : Int) ≤ (N : Int) + 3 := by omega
    have t3 : ((N : Int) + 3).toNat = N + 3 := by omega
    have t7 : ((N : Int) + 7).toNat = N + 7 := by omega
    have s2 : (N : Int) + 3 ≤ c := by omega
    have s5 : N + 7 - (N + 3) = 4 := by omega
    have s4 : ¬ c = N + 3 := by omega
    have E3 := Lib.hid e3
    have E4 := Lib.hid e4
    have HNC := Lib.hid hnc
    clear e3 e4 hnil hnc h2 h2i h2j h2k
    go_wp2
    have w3 : IntKind.i64.wrap ((N : Int) + 3) = (N : Int) + 3 := IntWalk.i64_in _ (by omega)
    have w7 : IntKind.i64.wrap ((N : Int) + 7) = (N : Int) + 7 := IntWalk.i64_in _ (by omega)
    have hA5 : At wq.drew (some { block := b, off := off }) (bys (l.take (N + 3))) := hA3.below (belowN 1)
    have hA6 : At wq.drew (some { block := b, off := off + (N + 3) }) (bys ((l.drop (N + 3)).take 4)) := hA4.below (belowN 1)
    go_region_with (first
      | (go_at_call 33; refine (sum_calls hA5 E3.out.symm (by rw [E3.out]; omega)).mono ?_; rintro e w2 ⟨rfl, rfl⟩)
      | (go_at_call 45; refine (four_calls _).mono ?_; rintro e w2 ⟨A2, c2, rfl, ho2, hb2⟩)
      | (go_at_call 11; refine (equal_calls (hA6.below hb2) (own_at ho2) E4.out.symm rfl).mono ?_; rintro e w3 ⟨rfl, rfl⟩))
    clear w3 w7
    replace hbq : Below w.heap.size w w2 := (hbq.drew).trans (hb2.mono hbq.size)
    replace hA := (hA.below (belowN 1)).below hb2
    clear hA3 hA4 hA5 hA6 ho2 hb2 s1 s2 s3 s4 s5 p1 p2 t3 t7 E3 E4
    go_wp2
    · go_ret3
      have hq : (l.drop (N + 3)).take 4 ≠ be32 (crc (l.take (N + 3))) := by
        intro he
        simp [he] at *
      exact RetU.bad' (U5.out N rfl hz (by omega) hq) hbq
    have hq : (l.drop (N + 3)).take 4 = be32 (crc (l.take (N + 3))) := by
      have hh : (!decide ((l.drop (N + 3)).take 4 = be32 (crc (l.take (N + 3))))) = false := by assumption
      simpa using hh
    have hnc := HNC.out
    have hr := Lib.hid (U6.out N rfl hz (by omega) hq)
    clear hq U3 U4 U5 U6
    have hA7 : At w2.drew (some { block := b, off := off + 3 }) (bys ((l.drop 3).take N)) := by
      have h := ((hA.drop 3 c (by simp; omega)).take N).below (belowN 1)
      rw [bys_drop, bys_take, cutA_some (by omega)] at h
      exact h
    have hA8 : At w2.drew (cutA (some { block := b, off := off }) (N + 7) c) (bys (l.drop (N + 7))) := by
      have h := (hA.drop (N + 7) c (by simp; omega)).below (belowN 1)
      rw [bys_drop] at h
      exact h
    have e7 : ((l.drop 3).take N).length = N := by rw [List.length_take, List.length_drop]; omega
    have e8 : (l.drop (N + 7)).length = l.length - (N + 7) := List.length_drop
    have E7 := Lib.hid e7
    have E8 := Lib.hid e8
    clear e7 e8
    have tk1 : True := trivial
    have q1 : (3 : Int) ≤ (N : Int) + 3 := by omega
    have q2 : (0 : Int) ≤ (N : Int) + 7 := by omega
    have q3 : (N : Int) + 7 ≤ (l.length : Int) := by omega
    have q4 : ¬ N + 3 = 3 := by omega
    have q5 : ((N : Int) + 7).toNat = N + 7 := by omega
    clear HNC h1 h3 h0 hpos hb0
    by_cases hc7 : c = N + 7
    · rw [cutA, if_pos hc7] at hA8
      have hz8 : l.length - (N + 7) = 0 := by omega
      have w7 : IntKind.i64.wrap ((N : Int) + 7) = (N : Int) + 7 := IntWalk.i64_in _ (by omega)
      clear hnc
      subst hc7
      go_region_with (first
        | (go_at_call 19; clear tk1; refine (clone_calls hA7 E7.out.symm (by simp) (by rw [E7.out]; omega)).mono ?_; rintro e w3 ⟨A3, c3, rfl, ho3, hb3⟩)
        | (go_at_call 19; refine (clone_calls (hA8.below hb3) ?e8 (by simp) (by rw [E8.out]; omega)).mono ?_; (case e8 => (first | exact E8.out.symm | (rw [E8.out]; omega))); rintro e w4 ⟨A4, c4, rfl, ho4, hb4⟩))
      go_wp2
      go_ret3
      rw [hr.out]
      exact RetU.mk E7.out.symm (by show _ = (List.drop _ l).length; rw [E8.out, hz8]) rfl (own_below ho3 hb4) hbq.drew.size ho4 (Nat.le_trans hbq.drew.size hb3.size) ((hbq.drew.trans (hb3.mono hbq.drew.size)).trans (hb4.mono (Nat.le_trans hbq.drew.size hb3.size)))
    · rw [cutA_some hc7] at hA8
      have w7 : IntKind.i64.wrap ((N : Int) + 7) = (N : Int) + 7 := IntWalk.i64_in _ (by omega)
      clear hnc
      go_region_with (first
        | (go_at_call 19; clear tk1; refine (clone_calls hA7 E7.out.symm (by simp) (by rw [E7.out]; omega)).mono ?_; rintro e w3 ⟨A3, c3, rfl, ho3, hb3⟩)
        | (go_at_call 19; refine (clone_calls (hA8.below hb3) ?e8 (by simp) (by rw [E8.out]; omega)).mono ?_; (case e8 => (first | exact E8.out.symm | (rw [E8.out]; omega))); rintro e w4 ⟨A4, c4, rfl, ho4, hb4⟩))
      go_wp2
      go_ret3
      rw [hr.out]
      exact RetU.mk E7.out.symm E8.out.symm rfl (own_below ho3 hb4) hbq.drew.size ho4 (Nat.le_trans hbq.drew.size hb3.size) ((hbq.drew.trans (hb3.mono hbq.drew.size)).trans (hb4.mono (Nat.le_trans hbq.drew.size hb3.size)))
  · have hr := Lib.hid (U.bad1 hpos h1)
    have hne := byte_eq_ne _ h1
    clear U hA h1
    go_enter Try.func21, Try.ntmps21
    go_wp2
    go_ret3
    exact RetU.bad hr.out

end Go.Proofs.Ytfcacplecapgfaa
