/- Contract: the law's small. -/
import Derived.Test.YtibidlgikecelaaDoorT18
import Derived.Test.YtibidlgikecelaaDoorR7
namespace Go.Proofs.YtibidlgikecelaaDoor
open Go.RowKit
set_option linter.unusedVariables false
set_option linter.unusedSimpArgs false

theorem cutA_nil (X : Option Addr) (c : Nat) : cutA X 0 c = X := by
  unfold cutA
  split
  · rfl
  · cases X with
    | none => rfl
    | some a => simp [Addr.add]
/-- Texts, few and short. -/
def smallL (LL : List (List B8)) : List (List B8) := (LL.take 40).map (List.take 24)

set_option maxHeartbeats 1000000 in
set_option maxRecDepth 100000 in
theorem small_le {w : World} {K M : Int} {A : Option Addr} {n c : Nat} {vs : List Value} {LL : List (List B8)} (hA : At w A vs) (hT : Texts w vs LL) (HN : Hid (n = LL.length)) (hmax : n ≤ 5864062014634) (hc : n ≤ c) (hn : n ≤ 40) :
    Calls Tryd.prog 32 #[.agg #[.int .i64 K, .int .i64 M], .slice A n c] w (RetT w (smallL LL)) := by
  have hni : (n : Int) ≤ 40 := by omega
  have hci : (n : Int) ≤ (c : Int) := by omega
  have HQ : Hid ((LL.take n).map (List.take 24) = smallL LL) := by
    show _ = _
    unfold smallL
    have := HN.out
    rw [List.take_of_length_le (by omega), List.take_of_length_le (by omega)]
  have HQL : Hid ((smallL LL).length = n) := by
    show _ = _
    rw [← HQ.out]
    have := HN.out
    simp; omega
  have hcutT : ∀ w, (Instr.sliceAt 24 (.slice A n c) none (some (.int .i64 (n : Int))) none).run Tryd.prog w = .ok (.slice A n c) w := fun w =>
    cut_heads 0 n (.inl ⟨rfl, rfl⟩) (.inr rfl) (by omega) (by omega) (cutA_nil A c) (by omega) (by omega) w
  have hb1 := below1' w (.cells #[.int .i64 K, .int .i64 M] 38)
  go_enter Tryd.func32, Tryd.ntmps32
  go_wp2_with fail
  generalize w.alloc (.cells #[.int .i64 K, .int .i64 M] 38) = w0 at *
  go_loopw [5, 14] (fun s5 s wr => ∃ (i : Nat) (A' : Option Addr) (cap : Nat) (xs : List Value), i ≤ n ∧ s = .int .i64 ((i : Nat) : Int) ∧ s5 = .slice A' i cap ∧ OwnT wr w.heap.size A' cap xs ((LL.take i).map (List.take 24)) ∧ Below w.heap.size w wr) (fun _ s _ => n - (intOf s).toNat)
  case atStart => exact ⟨0, none, 0, [], by omega, rfl, rfl, OwnT.nil _ _, hb1⟩
  case round =>
    obtain ⟨i, A', cap, xs, hi, rfl, rfl, hO, hb⟩ := hrel
    rename World => w1
    by_cases hin : i < n
    · have hii : (i : Int) < ((n : Nat) : Int) := by omega
      have hii2 : (i : Int) < n := by omega
      have hiL : i < LL.length := by have := HN.out; omega
      have hiv : i < vs.length := by rw [hT.1]; exact hiL
      obtain ⟨b, off, he, hc⟩ := hA i _ (List.getElem?_eq_getElem hiv)
      cases he
      have hRow := hT.2 i _ _ (List.getElem?_eq_getElem hiv) (List.getElem?_eq_getElem hiL)
      have hcw := (hb.cell (p := ⟨b, off + i, none⟩) (block_lt hc)).trans hc
      have htk : (LL.take (i + 1)).map (List.take 24) = (LL.take i).map (List.take 24) ++ [LL[i].take 24] := by rw [List.take_succ_eq_append_getElem hiL, List.map_append]; rfl
      have hln : ((LL.take i).map (List.take 24)).length = i := by simp; omega
      have HTK := Lib.hid htk
      have HLN := Lib.hid hln
      have hzw := hb.size
      generalize LL[i] = l at *
      obtain ⟨X, cx, hvf, hX, hXn, hXnil, hXm⟩ := hRow
      rw [hvf] at hcw
      have HO := Lib.hid hO
      clear hO htk hln hc hvf hiv hiL
      by_cases hl : l.length ≤ 24
      · have hli : (l.length : Int) ≤ 24 := by omega
        have hcut : ∀ w, (Instr.sliceAt 22 (.slice X l.length cx) none (some (.int .i64 (l.length : Int))) none).run Tryd.prog w = .ok (.slice X l.length cx) w := fun w => cut_eq 0 l.length (.inl ⟨rfl, rfl⟩) (.inr rfl) (by omega) hXn (cutA_nil X cx) (by omega) (by omega) w
        have htl : l.take 24 = l := List.take_of_length_le hl
        have HCL := Lib.hid (clone_calls (w := w1) (c := cx) (hX.below hb) rfl hXnil (by omega))
        have HTL := Lib.hid htl
        have HLE : Hid ((l.take 24).length = l.length) := by show (l.take 24).length = l.length; rw [htl]
        have HXM : Hid (l.length ≤ 140737488351232) := hXm
        have hXB : bys l = bys (l.take 24) := by rw [htl]
        have HXB := Lib.hid hXB
        clear htl hX hXnil hXB hXm
        generalize l.length = m at *
        go_wp2_with fail
        refine HCL.out.mono ?_
        rintro e w2 ⟨A2, c2, rfl, ho2, hb2⟩
        rw [HXB.out] at ho2
        have hb3 := hb2.trans ((below1' w2 (.cells #[.slice A2 m c2] 22)).mono hb2.size)
        have hO3 := HO.out.below hb3
        have hhead := hO3.own
        rw [HLN.out] at hhead
        have hz3 := hb3.size
        go_wp2_with (at_builtin; refine app_head rfl (.tmp 18) (.tmp 25) rfl w.heap.size rfl hhead rfl (news := [.slice A2 m c2]) rfl (at_lit1 _ _ _) (by intro u hu; rw [List.mem_singleton] at hu; subst hu; rfl) (by simp) (by omega) (by omega) ?_; intro A4 c4 w4 ho4 hb4 hg4 hc4)
        have hO4 : OwnT w4 w.heap.size A4 c4 (xs ++ [.slice A2 m c2]) ((LL.take (i + 1)).map (List.take 24)) := by
          rw [HTK.out]
          exact HO.out.push hzw HLE.out HXM.out ho2 HLN.out hb3 (below1' _ _) ho4 hg4
        exact ⟨⟨i + 1, A4, c4, _, by omega, by go_num, rfl, hO4, (hb.trans (hb3.mono hzw)).trans hb4⟩, by simp [intOf]; omega⟩
      · have hli : ¬ (l.length : Int) ≤ 24 := by omega
        have hli2 : (24 : Int) < (l.length : Int) := by omega
        have hcx24 : (24 : Int) ≤ (cx : Int) := by omega
        have hcut : ∀ w, (Instr.sliceAt 22 (.slice X l.length cx) none (some (.int .i64 24)) none).run Tryd.prog w = .ok (.slice X 24 cx) w := fun w => cut_eq 0 24 (.inl ⟨rfl, rfl⟩) (.inr rfl) (by omega) (by omega) (cutA_nil X cx) (by omega) (by omega) w
        have HLE : Hid ((l.take 24).length = 24) := by show (l.take 24).length = 24; simp; omega
        have hX24 : At w1 X (bys (l.take 24)) := by rw [← bys_take]; exact (hX.below hb).take 24
        have HCL := Lib.hid (clone_calls (w := w1) (c := cx) (n := 24) hX24 HLE.out.symm hXnil (by rw [HLE.out]; decide))
        have HXM : Hid (24 ≤ 140737488351232) := (by decide : 24 ≤ 140737488351232)
        clear hX hXnil hXm hX24
        go_wp2_with fail
        refine HCL.out.mono ?_
        rintro e w2 ⟨A2, c2, rfl, ho2, hb2⟩
        have hb3 := hb2.trans ((below1' w2 (.cells #[.slice A2 24 c2] 22)).mono hb2.size)
        have hO3 := HO.out.below hb3
        have hhead := hO3.own
        rw [HLN.out] at hhead
        have hz3 := hb3.size
        go_wp2_with (at_builtin; refine app_head rfl (.tmp 18) (.tmp 25) rfl w.heap.size rfl hhead rfl (news := [.slice A2 24 c2]) rfl (at_lit1 _ _ _) (by intro u hu; rw [List.mem_singleton] at hu; subst hu; rfl) (by simp) (by omega) (by omega) ?_; intro A4 c4 w4 ho4 hb4 hg4 hc4)
        have hO4 : OwnT w4 w.heap.size A4 c4 (xs ++ [.slice A2 24 c2]) ((LL.take (i + 1)).map (List.take 24)) := by
          rw [HTK.out]
          exact HO.out.push hzw HLE.out HXM.out ho2 HLN.out hb3 (below1' _ _) ho4 hg4
        exact ⟨⟨i + 1, A4, c4, _, by omega, by go_num, rfl, hO4, (hb.trans (hb3.mono hzw)).trans hb4⟩, by simp [intOf]; omega⟩
    · obtain rfl : i = n := by omega
      go_wp2_with fail
      go_ret
      rw [HQ.out] at hO
      exact ⟨A', cap, xs, by rw [HQL.out]; rfl, hO, hb⟩
set_option maxHeartbeats 1000000 in
set_option maxRecDepth 100000 in
theorem small_gt {w : World} {K M : Int} {A : Option Addr} {n c : Nat} {vs : List Value} {LL : List (List B8)} (hA : At w A vs) (hT : Texts w vs LL) (HN : Hid (n = LL.length)) (hmax : n ≤ 5864062014634) (hc : n ≤ c) (hn : 40 < n) :
    Calls Tryd.prog 32 #[.agg #[.int .i64 K, .int .i64 M], .slice A n c] w (RetT w (smallL LL)) := by
  have hni : ¬ (n : Int) ≤ 40 := by omega
  have hni2 : (40 : Int) < (n : Int) := by omega
  have hci : (40 : Int) ≤ (c : Int) := by omega
  have HQ : Hid ((LL.take 40).map (List.take 24) = smallL LL) := rfl
  have HQL : Hid ((smallL LL).length = 40) := by
    show _ = _
    rw [← HQ.out]
    have := HN.out
    simp; omega
  have hcutT : ∀ w, (Instr.sliceAt 24 (.slice A n c) none (some (.int .i64 40)) none).run Tryd.prog w = .ok (.slice A 40 c) w := fun w =>
    cut_heads 0 40 (.inl ⟨rfl, rfl⟩) (.inr rfl) (by omega) (by omega) (cutA_nil A c) (by omega) (by omega) w
  have hb1 := below1' w (.cells #[.int .i64 K, .int .i64 M] 38)
  go_enter Tryd.func32, Tryd.ntmps32
  go_wp2_with fail
  generalize w.alloc (.cells #[.int .i64 K, .int .i64 M] 38) = w0 at *
  go_loopw [5, 14] (fun s5 s wr => ∃ (i : Nat) (A' : Option Addr) (cap : Nat) (xs : List Value), i ≤ 40 ∧ s = .int .i64 ((i : Nat) : Int) ∧ s5 = .slice A' i cap ∧ OwnT wr w.heap.size A' cap xs ((LL.take i).map (List.take 24)) ∧ Below w.heap.size w wr) (fun _ s _ => 40 - (intOf s).toNat)
  case atStart => exact ⟨0, none, 0, [], by omega, rfl, rfl, OwnT.nil _ _, hb1⟩
  case round =>
    obtain ⟨i, A', cap, xs, hi, rfl, rfl, hO, hb⟩ := hrel
    rename World => w1
    by_cases hin : i < 40
    · have hii : (i : Int) < ((40 : Nat) : Int) := by omega
      have hii2 : (i : Int) < 40 := by omega
      have hiL : i < LL.length := by have := HN.out; omega
      have hiv : i < vs.length := by rw [hT.1]; exact hiL
      obtain ⟨b, off, he, hc⟩ := hA i _ (List.getElem?_eq_getElem hiv)
      cases he
      have hRow := hT.2 i _ _ (List.getElem?_eq_getElem hiv) (List.getElem?_eq_getElem hiL)
      have hcw := (hb.cell (p := ⟨b, off + i, none⟩) (block_lt hc)).trans hc
      have htk : (LL.take (i + 1)).map (List.take 24) = (LL.take i).map (List.take 24) ++ [LL[i].take 24] := by rw [List.take_succ_eq_append_getElem hiL, List.map_append]; rfl
      have hln : ((LL.take i).map (List.take 24)).length = i := by simp; omega
      have HTK := Lib.hid htk
      have HLN := Lib.hid hln
      have hzw := hb.size
      generalize LL[i] = l at *
      obtain ⟨X, cx, hvf, hX, hXn, hXnil, hXm⟩ := hRow
      rw [hvf] at hcw
      have HO := Lib.hid hO
      clear hO htk hln hc hvf hiv hiL
      by_cases hl : l.length ≤ 24
      · have hli : (l.length : Int) ≤ 24 := by omega
        have hcut : ∀ w, (Instr.sliceAt 22 (.slice X l.length cx) none (some (.int .i64 (l.length : Int))) none).run Tryd.prog w = .ok (.slice X l.length cx) w := fun w => cut_eq 0 l.length (.inl ⟨rfl, rfl⟩) (.inr rfl) (by omega) hXn (cutA_nil X cx) (by omega) (by omega) w
        have htl : l.take 24 = l := List.take_of_length_le hl
        have HCL := Lib.hid (clone_calls (w := w1) (c := cx) (hX.below hb) rfl hXnil (by omega))
        have HTL := Lib.hid htl
        have HLE : Hid ((l.take 24).length = l.length) := by show (l.take 24).length = l.length; rw [htl]
        have HXM : Hid (l.length ≤ 140737488351232) := hXm
        have hXB : bys l = bys (l.take 24) := by rw [htl]
        have HXB := Lib.hid hXB
        clear htl hX hXnil hXB hXm
        generalize l.length = m at *
        go_wp2_with fail
        refine HCL.out.mono ?_
        rintro e w2 ⟨A2, c2, rfl, ho2, hb2⟩
        rw [HXB.out] at ho2
        have hb3 := hb2.trans ((below1' w2 (.cells #[.slice A2 m c2] 22)).mono hb2.size)
        have hO3 := HO.out.below hb3
        have hhead := hO3.own
        rw [HLN.out] at hhead
        have hz3 := hb3.size
        go_wp2_with (at_builtin; refine app_head rfl (.tmp 18) (.tmp 25) rfl w.heap.size rfl hhead rfl (news := [.slice A2 m c2]) rfl (at_lit1 _ _ _) (by intro u hu; rw [List.mem_singleton] at hu; subst hu; rfl) (by simp) (by omega) (by omega) ?_; intro A4 c4 w4 ho4 hb4 hg4 hc4)
        have hO4 : OwnT w4 w.heap.size A4 c4 (xs ++ [.slice A2 m c2]) ((LL.take (i + 1)).map (List.take 24)) := by
          rw [HTK.out]
          exact HO.out.push hzw HLE.out HXM.out ho2 HLN.out hb3 (below1' _ _) ho4 hg4
        exact ⟨⟨i + 1, A4, c4, _, by omega, by go_num, rfl, hO4, (hb.trans (hb3.mono hzw)).trans hb4⟩, by simp [intOf]; omega⟩
      · have hli : ¬ (l.length : Int) ≤ 24 := by omega
        have hli2 : (24 : Int) < (l.length : Int) := by omega
        have hcx24 : (24 : Int) ≤ (cx : Int) := by omega
        have hcut : ∀ w, (Instr.sliceAt 22 (.slice X l.length cx) none (some (.int .i64 24)) none).run Tryd.prog w = .ok (.slice X 24 cx) w := fun w => cut_eq 0 24 (.inl ⟨rfl, rfl⟩) (.inr rfl) (by omega) (by omega) (cutA_nil X cx) (by omega) (by omega) w
        have HLE : Hid ((l.take 24).length = 24) := by show (l.take 24).length = 24; simp; omega
        have hX24 : At w1 X (bys (l.take 24)) := by rw [← bys_take]; exact (hX.below hb).take 24
        have HCL := Lib.hid (clone_calls (w := w1) (c := cx) (n := 24) hX24 HLE.out.symm hXnil (by rw [HLE.out]; decide))
        have HXM : Hid (24 ≤ 140737488351232) := (by decide : 24 ≤ 140737488351232)
        clear hX hXnil hXm hX24
        go_wp2_with fail
        refine HCL.out.mono ?_
        rintro e w2 ⟨A2, c2, rfl, ho2, hb2⟩
        have hb3 := hb2.trans ((below1' w2 (.cells #[.slice A2 24 c2] 22)).mono hb2.size)
        have hO3 := HO.out.below hb3
        have hhead := hO3.own
        rw [HLN.out] at hhead
        have hz3 := hb3.size
        go_wp2_with (at_builtin; refine app_head rfl (.tmp 18) (.tmp 25) rfl w.heap.size rfl hhead rfl (news := [.slice A2 24 c2]) rfl (at_lit1 _ _ _) (by intro u hu; rw [List.mem_singleton] at hu; subst hu; rfl) (by simp) (by omega) (by omega) ?_; intro A4 c4 w4 ho4 hb4 hg4 hc4)
        have hO4 : OwnT w4 w.heap.size A4 c4 (xs ++ [.slice A2 24 c2]) ((LL.take (i + 1)).map (List.take 24)) := by
          rw [HTK.out]
          exact HO.out.push hzw HLE.out HXM.out ho2 HLN.out hb3 (below1' _ _) ho4 hg4
        exact ⟨⟨i + 1, A4, c4, _, by omega, by go_num, rfl, hO4, (hb.trans (hb3.mono hzw)).trans hb4⟩, by simp [intOf]; omega⟩
    · obtain rfl : i = 40 := by omega
      go_wp2_with fail
      go_ret
      rw [HQ.out] at hO
      exact ⟨A', cap, xs, by rw [HQL.out]; rfl, hO, hb⟩
theorem small_calls {w : World} {K M : Int} {A : Option Addr} {n c : Nat} {vs : List Value} {LL : List (List B8)} (hA : At w A vs) (hT : Texts w vs LL) (hn : n = LL.length) (hmax : n ≤ 5864062014634) (hc : n ≤ c) :
    Calls Tryd.prog 32 #[.agg #[.int .i64 K, .int .i64 M], .slice A n c] w (RetT w (smallL LL)) := by
  rcases Nat.lt_or_ge 40 n with h | h
  · exact small_gt hA hT hn hmax hc h
  · exact small_le hA hT hn hmax hc h
theorem small_len (LL : List (List B8)) : (smallL LL).length ≤ 40 := by unfold smallL; simp; omega
theorem small_wid (LL : List (List B8)) : widL (smallL LL) ≤ 24 := by
  unfold widL
  rw [List.getD_eq_getElem?_getD]
  cases h : (smallL LL)[0]? with
  | none => simp
  | some l =>
    unfold smallL at h
    rw [List.getElem?_map] at h
    cases h2 : (LL.take 40)[0]? with
    | none => rw [h2] at h; cases h
    | some x =>
      rw [h2] at h
      cases h
      simp; omega

end Go.Proofs.YtibidlgikecelaaDoor
