/- The law FrameMany. -/
import Derived.Test.YtjninkdhicmniaaF7
namespace Go.Proofs.Ytjninkdhicmniaa
open Go.RowKit
set_option linter.unusedVariables false
set_option linter.unusedSimpArgs false

theorem slinfo : (Try.prog.info? 28).map (fun i => (i.zero, i.size, i.bytes)) = some (some (.slice none 0 0), 1, 24) := by kernel_rfl

/-- append(own, slices of bytes...) -/
theorem app_slices {w : World} {ops : Array Oper} {rest : List Oper} {o : Oper} {a : Act} {Q : Exit → Act → World → Prop}
    (hg : o.guard = none) (s x : Operand) (hop : o.op = Op.call { callee := Callee.builtin Builtin.append, args := #[s, x], argTypes := #[42, 42] })
    (base : Nat) {v : Value} {n : Nat} {xs : List Value} (hs : a.eval s = v) (hown : w.ownsRow base 28 1 v n xs)
    {A : Option Addr} {m c : Nat} (hx : a.eval x = .slice A m c) {news : List Value} (hl : news.length = m) (hA : At w A news) (h1 : ∀ u ∈ news, u.oneCell' = true)
    (hnil : A = none → c = 0) (hbytes : (n + m) * 24 ≤ 140737488355328) (hbase : base ≤ w.heap.size)
    (hK : ∀ A' c' w', w'.ownsRow base 28 1 (.slice A' (n + m) c') (n + m) (xs ++ news) → Below base w w' → w.grownBy w' v.ownBlock ∧ ((Value.slice A' (n + m) c').ownBlock = v.ownBlock ∨ (Value.slice A' (n + m) c').ownBlock = some w.heap.size) → n + m ≤ c' →
      wpList Try.prog ops Q rest (a.put o.dst (.slice A' (n + m) c')) w') :
    wpList Try.prog ops Q (o :: rest) a w := by
  obtain ⟨i, hi, hz0, hz1, hz2⟩ := info_parts slinfo
  exact wpList_plain hg fun _ hK' => wp_app w s x 42 hop base 28 i (.slice none 0 0) 1 24 Try.underlying42 hi hz0 hz1 hz2 rfl (by decide) v n xs hs hown A m c hx news (by simpa using hl) hA h1 hnil
    (by unfold maxLen; omega) hbytes hbase fun A' c' w' h1 h2 h3 h4 => hK' _ _ (hK A' c' w' h1 h2 h3 h4)

/-- What one element is made into. -/
def mark2 (l : List B8) : List B8 := l.take 100 ++ [2#8]
def frames (LL : List (List B8)) : List B8 := LL.flatMap fun l => wrapF (mark2 l)

theorem take_succ_of {LS : List (List B8)} {k : Nat} {l : List B8} (h : LS[k]? = some l) : LS.take (k + 1) = LS.take k ++ [l] := by
  rw [List.take_add_one, h]; rfl

theorem drop_of {LS : List (List B8)} {k : Nat} {l : List B8} (h : LS[k]? = some l) : LS.drop k = l :: LS.drop (k + 1) := by
  obtain ⟨hk, he⟩ := List.getElem?_eq_some_iff.1 h
  rw [List.drop_eq_getElem_cons hk, he]
theorem unwrap_to {w : World} {A : Option Addr} {n c : Nat} {l : List B8} {r : List B8 × List B8 × Int} (hr : unwrapF l = r) (hA : At w A (bys l)) (hn : n = l.length) (hnc : n ≤ c) (hnil : A = none → c = 0) (hmax : l.length ≤ 140737488355328) :
    Calls Try.prog 22 #[.slice A n c] w (RetU w r) := by
  subst hr; exact unwrap_calls hA hn hnc hnil hmax

theorem frames_snoc (LS : List (List B8)) (l : List B8) : frames (LS ++ [l]) = frames LS ++ wrapF (mark2 l) := by simp [frames]
theorem mark2_ne (l : List B8) : mark2 l ≠ [] := by simp [mark2]

theorem unwrap_wrap (l rest : List B8) (h0 : 1 ≤ l.length) (h1 : l.length ≤ 65535) : unwrapF (wrapF l ++ rest) = (l, rest, 0) := by
  have hl : (wrapF l ++ rest).length = l.length + 7 + rest.length := by simp
  have U := unwrapAt (wrapF l ++ rest)
  have hf : ∀ j (hj : j < l.length + 7), (wrapF l ++ rest)[j]'(by omega) = (wrapF l)[j]'(by rw [length_wrapF]; omega) := fun j hj => List.getElem_append_left _
  have h00 : (wrapF l)[0]'(by rw [length_wrapF]; omega) = 0xa3#8 := by simp [wrapF, held]
  have h1' : (wrapF l)[1]'(by rw [length_wrapF]; omega) = BitVec.ofNat 8 (l.length / 256) := by simp [wrapF, held, be16]
  have h2' : (wrapF l)[2]'(by rw [length_wrapF]; omega) = BitVec.ofNat 8 l.length := by simp [wrapF, held, be16]
  have hn : l.length = ((wrapF l ++ rest)[1]'(by omega)).toNat * 256 + ((wrapF l ++ rest)[2]'(by omega)).toNat := by
    rw [hf 1 (by omega), hf 2 (by omega), h1', h2', BitVec.toNat_ofNat, BitVec.toNat_ofNat]
    omega
  have hw : wrapF l ++ rest = held l ++ (be32 (crc (held l)) ++ rest) := by unfold wrapF; rw [List.append_assoc]
  have ht : (wrapF l ++ rest).take (l.length + 3) = held l := by
    rw [hw, List.take_append_of_le_length (by simp), List.take_of_length_le (by simp)]
  have hd : ((wrapF l ++ rest).drop (l.length + 3)).take 4 = be32 (crc (held l)) := by
    rw [hw, List.drop_append_of_le_length (by simp), List.drop_of_length_le (by simp)]
    rfl
  rw [U.good (by omega) (by rw [hf 0 (by omega), h00]) l.length hn (by omega) (by omega) (by rw [hd, ht])]
  have e1 : ((wrapF l ++ rest).drop 3).take l.length = l := by
    rw [hw]
    have : held l = [0xa3#8, BitVec.ofNat 8 (l.length / 256), BitVec.ofNat 8 l.length] ++ l := rfl
    rw [this, List.append_assoc, List.drop_left' (by rfl), List.take_append_of_le_length (by omega), List.take_of_length_le (by omega)]
  have e2 : (wrapF l ++ rest).drop (l.length + 7) = rest := by rw [List.drop_append_of_le_length (by simp), List.drop_of_length_le (by simp)]; rfl
  rw [e1, e2]

set_option maxHeartbeats 1000000 in
theorem frameMany_le {w : World} {A : Option Addr} {n c : Nat} {vs : List Value} {LL : List (List B8)} (hA : At w A vs) (hn : n = vs.length) (hnc : n ≤ c) (hnil : A = none → c = 0) (hmax : n * 24 ≤ 140737488351232) (hT : Texts w vs LL) (hcase : (vs.length : Int) ≤ 20) :
    Calls Try.prog 8 #[.slice A n c] w fun e w' => e = .returned (.bool true) ∧ Below w.heap.size w w' := by
  subst hn
  have hA1 : At w A (vs.take 20) := hA.take 20
  have hT1 : Texts w (vs.take 20) (LL.take 20) := ⟨by simp [hT.1], fun i v l h1 h2 => by
    rw [List.getElem?_take] at h1 h2
    split at h1
    · rename_i hi; rw [if_pos hi] at h2; exact hT.2 i v l h1 h2
    · cases h1⟩
  have e1 := Lib.hid (by rw [List.length_take] : (vs.take 20).length = min 20 vs.length)
  generalize vs.take 20 = VS at *
  generalize LL.take 20 = LS at *
  have hci : (vs.length : Int) ≤ c := by omega
  have hc2 : 20 < (vs.length : Int) → (20 : Int) ≤ c := by omega
  clear hA hT hmax
  go_enter Try.func8, Try.ntmps8
  go_wp2_with fail
  have hM : vs.length = VS.length := by have := e1.out; omega
  rw [hM]
  go_loopw [23, 3, 4] (fun s23 s3 s4 wr => ∃ (k : Nat) (N3 : Nat) (WS : List Value), k ≤ VS.length ∧ s23 = .int .i64 k ∧ N3 = (frames (LS.take k)).length ∧ N3 ≤ 108 * k ∧
      wr.ownsRow w.heap.size 5 1 s3 N3 (bys (frames (LS.take k))) ∧ wr.ownsRow w.heap.size 28 1 s4 k WS ∧ Texts wr WS ((LS.take k).map mark2) ∧ FarT s3 WS ∧ FarT s4 WS ∧ Below w.heap.size w wr) (fun s23 _ _ _ => VS.length - (intOf s23).toNat)
  case atStart => exact ⟨0, 0, [], by omega, rfl, by simp [frames], by omega, by simpa [frames] using World.ownsRow_nil w _ _ _, World.ownsRow_nil w _ _ _, Texts.nil _, FarT.nil _, FarT.nil _, Below.refl _ _⟩
  case round =>
    obtain ⟨k, N3, WS, hk, rfl, hN3, hN3b, ho3, ho4, hWS, hF3, hF4, HB⟩ := hrel
    obtain ⟨A3, c3, rfl, hc3⟩ := own_form ho3
    obtain ⟨A4, c4, rfl, hc4⟩ := own_form ho4
    by_cases hlt : k < VS.length
    · obtain ⟨b, off, hAe, hcell⟩ := (hA1.below HB) k VS[k] (List.getElem?_eq_getElem hlt)
      obtain ⟨l, hl, hrow⟩ := (hT1.below HB).get hlt
      have HT := Lib.hid (take_succ_of hl)
      generalize VS[k] = v at *
      obtain ⟨Av, cv, rfl, hAv, hlc, hnilv, hlm⟩ := hrow
      subst hAe
      have hk20 : VS.length ≤ 20 := by have := e1.out; omega
      have hlci : (l.length : Int) ≤ cv := by omega
      have hlc2 : 100 < (l.length : Int) → (100 : Int) ≤ cv := by omega
      have hml : (mark2 l).length = min 100 l.length + 1 := by simp [mark2]
      have HML := Lib.hid hml
      have HN3 := Lib.hid hN3
      have tk1 : True := trivial
      have tk2 : True := trivial
      clear hM hml hN3
      go_wp2_with fail
      all_goals
        refine (clone_calls (l := l.take 100) (by rw [← bys_take]; exact hAv.take 100) (by rw [List.length_take]; omega) hnilv (by rw [List.length_take]; omega)).mono ?_
        rintro e w1 ⟨A1, c1, rfl, ho1, HBr⟩
        clear hlci hlc2
        go_wp2_with (first
          | (at_builtin; clear tk1; refine app_bytes rfl (.tmp 32) (.tmp 33) rfl wr.heap.size rfl (ho1.alloc _) rfl (news := [2#8]) rfl (by exact at_lit rfl) (by simp) (by omega) ?hbs ?_; (case hbs => (simp; have := HBr.size; omega)); intro A2 c2 w2 ho2 hb2 hg2 hc2; clear hg2; replace HBr := (HBr.alloc HBr.size _).trans hb2; clear hb2 ho1))
        obtain ⟨m2, hm2⟩ : ∃ m2, m2 = (mark2 l).length := ⟨_, rfl⟩
        replace ho2 : w2.ownsRow _ _ _ _ _ (bys (mark2 l)) := ho2
        (first | rw [show (100 + 1 : Nat) = m2 by have := HML.out; omega] at ho2 | rw [show (l.length + 1 : Nat) = m2 by have := HML.out; omega] at ho2)
        (first | rw [show (101 : Nat) = m2 by have := HML.out; omega] | rw [show (l.length + 1 : Nat) = m2 by have := HML.out; omega])
        have hm2b : 1 ≤ m2 ∧ m2 ≤ 101 := by have := HML.out; omega
        refine (wrap_ok (l := mark2 l) (own_at ho2) hm2 (own_nil ho2) hm2b.1 (by omega)).mono ?_
        rintro e w3 ⟨A5, c5, rfl, ho5, hb5⟩
        have hbx : ∀ bb, (Value.slice A2 m2 c2).ownBlock = some bb → wr.heap.size ≤ bb ∧ bb < w3.heap.size := fun bb hbb => ⟨(ho2.lt bb hbb).1, Nat.lt_of_lt_of_le (ho2.lt bb hbb).2 hb5.size⟩
        replace ho2 := own_below ho2 hb5
        replace HBr := HBr.trans (hb5.mono HBr.size)
        have ho3w := own_below ho3 HBr
        have ho4w := own_below ho4 HBr
        have hsz := HB.size
        have hszr := HBr.size
        have HM2 := Lib.hid hm2
        clear hm2
        go_wp2_with (first
          | (at_builtin; clear tk2; refine app_bytes rfl (.tmp 42) (.tmp 43) rfl w.heap.size rfl ho3w rfl (news := wrapF (mark2 l)) (by rw [length_wrapF, HM2.out]) (own_at ho5) (own_nil ho5) (by omega) (by omega) ?_; intro A6 c6 w4 ho6 hb6 hg6 hc6)
          | (at_builtin; refine app_slices rfl (.tmp 45) (.tmp 47) rfl w.heap.size rfl ((own_grown ho4w hg6.1 (own_ne ho3w ho4w (by decide))).alloc _) rfl (news := [.slice A2 m2 c2]) rfl (by exact at_alloc _ _ _ _) (by intro u hu; rw [List.mem_singleton] at hu; subst hu; rfl) (by simp) (by omega) ?_ ?_; (case _ => (simp; have := hb6.size; omega)); intro A7 c7 w5 ho7 hb7 hg7 hc7))
        have g6 : w3.grownBy w4 (Value.slice A3 N3 c3).ownBlock := hg6.1
        have l6 : (Value.slice A6 (N3 + (m2 + 7)) c6).ownBlock = (Value.slice A3 N3 c3).ownBlock ∨ (Value.slice A6 (N3 + (m2 + 7)) c6).ownBlock = some w3.heap.size := hg6.2
        have g7 : (w4.alloc (.cells #[.slice A2 m2 c2] 28)).grownBy w5 (Value.slice A4 k c4).ownBlock := hg7.1
        have l7 : (Value.slice A7 (k + 1) c7).ownBlock = (Value.slice A4 k c4).ownBlock ∨ (Value.slice A7 (k + 1) c7).ownBlock = some (w4.alloc (.cells #[.slice A2 m2 c2] 28)).heap.size := hg7.2
        have hne : ∀ l', l' ∈ (LS.take k).map mark2 → l' ≠ [] := by intro l' h'; obtain ⟨x, _, rfl⟩ := List.mem_map.1 h'; exact mark2_ne x
        have hW3 := hWS.below HBr
        have hW4 := hW3.grown g6 hF3
        have hba := (Below.refl w4.heap.size w4).alloc (Nat.le_refl _) (.cells #[.slice A2 m2 c2] 28)
        have hW5 := (hW4.below hba).grown g7 hF4
        have hR3 := own_row ho2 (by have := HM2.out; omega)
        have hR4 := hR3.grown g6 (far_old ho3 (fun bb hb => (hbx bb hb).1))
        have hR5 := (hR4.below hba).grown g7 (far_old ho4 (fun bb hb => (hbx bb hb).1))
        have hwant4 := (own_grown ho4w g6 (own_ne ho3w ho4w (by decide))).alloc (.cells #[.slice A2 m2 c2] 28)
        have hall5 := own_grown (ho6.alloc _) g7 (own_ne hwant4 (ho6.alloc _) (by decide))
        have s4 := g6.size
        refine ⟨⟨k + 1, N3 + (m2 + 7), WS ++ [.slice A2 m2 c2], by omega, by go_num, ?_, by omega, ?_, ho7, ?_, ?_, ?_, ?_⟩, by simp [intOf]; omega⟩
        · rw [HT.out, frames_snoc, List.length_append, ← HN3.out, length_wrapF, HM2.out]
        · rw [HT.out, frames_snoc]; exact hall5
        · rw [HT.out, List.map_append]; exact hW5.snoc hR5
        · exact (hF3.lies l6 (hW3.lt hne)).snoc (far_new ho3 l6 hbx)
        · refine (hF4.lies l7 ((hW4.below hba).lt hne)).snoc (far_new ho4 l7 (fun bb hb => ?_))
          have := hbx bb hb
          have := hba.size
          omega
        · exact (((HB.trans (HBr.mono hsz)).trans hb6).trans (hba.mono (by omega))).trans hb7
    · have hkM : k = VS.length := by omega
      subst hkM
      have hLS : LS.take VS.length = LS := List.take_of_length_le (by rw [hT1.1]; exact Nat.le_refl _)
      rw [hLS] at ho3 hWS hN3
      have hk20 : VS.length ≤ 20 := by have := e1.out; omega
      have hA3 := own_at ho3
      have hnil3 := own_nil ho3
      have hA4 := own_at ho4
      have hWl := Lib.hid (by have := ho4.1; omega : WS.length = VS.length)
      have hLl := Lib.hid hT1.1
      have HN3 := Lib.hid hN3
      clear hLS hN3 hM ho3 ho4 hF3 hF4 hlt hk hA1 hT1
      go_wp2_with fail
      go_loopw [52, 3] (fun s52 s3 w2 => ∃ (j : Nat) (N : Nat) (A3 : Option Addr) (c3 : Nat), j ≤ VS.length ∧ s52 = .int .i64 j ∧ s3 = .slice A3 N c3 ∧ N = (frames (LS.drop j)).length ∧ N ≤ 2160 ∧ N ≤ c3 ∧ (A3 = none → c3 = 0) ∧
          At w2 A3 (bys (frames (LS.drop j))) ∧ Below wr.heap.size wr w2) (fun s52 _ _ => VS.length - (intOf s52).toNat)
      case atStart => exact ⟨0, N3, A3, c3, by omega, rfl, rfl, by rw [HN3.out]; rfl, by omega, hc3, hnil3, hA3, Below.refl _ _⟩
      case round =>
        obtain ⟨j, N, A5, c5, hj, rfl, rfl, hN, hNb, hNc, hnil5, hA5, HBr⟩ := hrel
        clear hA3 hnil3
        by_cases hlt : j < VS.length
        · obtain ⟨b, off, hAe, hcell⟩ := (hA4.below HBr) j (WS[j]'(by rw [hWl.out]; exact hlt)) (List.getElem?_eq_getElem _)
          obtain ⟨l', hl', hrow⟩ := (hWS.below HBr).get (k := j) (by rw [hWl.out]; exact hlt)
          rw [List.getElem?_map] at hl'
          obtain ⟨l, hl, rfl⟩ := Option.map_eq_some_iff.1 hl'
          have hdr : LS.drop j = l :: LS.drop (j + 1) := drop_of hl
          have hfr : frames (LS.drop j) = wrapF (mark2 l) ++ frames (LS.drop (j + 1)) := by rw [hdr]; simp [frames]
          have hml : (mark2 l).length = min 100 l.length + 1 := by simp [mark2]
          have hun := Lib.hid (by rw [hfr]; exact unwrap_wrap (mark2 l) (frames (LS.drop (j + 1))) (by omega) (by omega) : unwrapF (frames (LS.drop j)) = (mark2 l, frames (LS.drop (j + 1)), 0))
          have hfl : (frames (LS.drop (j + 1))).length ≤ N := by rw [hN, hfr]; simp
          generalize (WS[j]'(by rw [hWl.out]; exact hlt)) = v at *
          obtain ⟨Av, cv, rfl, hAv, hlc, hnilv, hlm⟩ := hrow
          subst hAe
          have HN := Lib.hid hN
          have hfl2 : (frames (LS.drop (j + 1))).length ≤ 2160 := by omega
          clear hl' hdr hfr hN hml
          go_wp2_with fail
          refine (unwrap_to hun.out hA5 HN.out hNc hnil5 (by rw [← HN.out]; omega)).mono ?_
          rintro e w4 ⟨A6, c6, A7, c7, rfl, ho6, ho7, hb4⟩
          replace HBr := HBr.trans (hb4.mono HBr.size)
          go_wp2_with (go_at_call 18; refine (equal_calls (own_at ho6) (hAv.below hb4) rfl rfl).mono ?_; rintro e w5 ⟨rfl, rfl⟩)
          go_roundw
          case rel => exact ⟨j + 1, _, A7, c7, by omega, by go_num, rfl, rfl, hfl2, own_le ho7, own_nil ho7, own_at ho7, HBr⟩
          case measure => simp [intOf]; omega
        · have hj0 : LS.drop j = [] := List.drop_of_length_le (by rw [← hLl.out]; omega)
          rw [hj0] at hA5 hN
          have hN0 : N = 0 := by rw [hN]; rfl
          subst hN0
          clear hN
          go_wp2_with fail
          refine (unwrap_to (r := ([], [], 50)) (l := []) rfl (At.nil _ _) rfl (by omega) hnil5 (by simp)).mono ?_
          rintro e w4 ⟨A6, c6, A7, c7, rfl, ho6, ho7, hb4⟩
          go_wp2_with fail
          go_ret
          exact ⟨rfl, (HB.trans (HBr.mono HB.size)).trans (hb4.mono (Nat.le_trans HB.size HBr.size))⟩

set_option maxHeartbeats 1000000 in
theorem frameMany_gt {w : World} {A : Option Addr} {n c : Nat} {vs : List Value} {LL : List (List B8)} (hA : At w A vs) (hn : n = vs.length) (hnc : n ≤ c) (hnil : A = none → c = 0) (hmax : n * 24 ≤ 140737488351232) (hT : Texts w vs LL) (hcase : 20 < (vs.length : Int)) :
    Calls Try.prog 8 #[.slice A n c] w fun e w' => e = .returned (.bool true) ∧ Below w.heap.size w w' := by
  subst hn
  have hA1 : At w A (vs.take 20) := hA.take 20
  have hT1 : Texts w (vs.take 20) (LL.take 20) := ⟨by simp [hT.1], fun i v l h1 h2 => by
    rw [List.getElem?_take] at h1 h2
    split at h1
    · rename_i hi; rw [if_pos hi] at h2; exact hT.2 i v l h1 h2
    · cases h1⟩
  have e1 := Lib.hid (by rw [List.length_take] : (vs.take 20).length = min 20 vs.length)
  generalize vs.take 20 = VS at *
  generalize LL.take 20 = LS at *
  have hci : (vs.length : Int) ≤ c := by omega
  have hc2 : 20 < (vs.length : Int) → (20 : Int) ≤ c := by omega
  clear hA hT hmax
  go_enter Try.func8, Try.ntmps8
  go_wp2_with fail
  have hM : 20 = VS.length := by have := e1.out; omega
  try rw [show max (20 : Int) 0 = (VS.length : Int) by omega]
  rw [show Value.slice A 20 c = Value.slice A VS.length c by rw [← hM]]
  try rw [show Value.int .i64 20 = Value.int .i64 (VS.length : Int) by rw [← hM]; rfl]
  go_loopw [23, 3, 4] (fun s23 s3 s4 wr => ∃ (k : Nat) (N3 : Nat) (WS : List Value), k ≤ VS.length ∧ s23 = .int .i64 k ∧ N3 = (frames (LS.take k)).length ∧ N3 ≤ 108 * k ∧
      wr.ownsRow w.heap.size 5 1 s3 N3 (bys (frames (LS.take k))) ∧ wr.ownsRow w.heap.size 28 1 s4 k WS ∧ Texts wr WS ((LS.take k).map mark2) ∧ FarT s3 WS ∧ FarT s4 WS ∧ Below w.heap.size w wr) (fun s23 _ _ _ => VS.length - (intOf s23).toNat)
  case atStart => exact ⟨0, 0, [], by omega, rfl, by simp [frames], by omega, by simpa [frames] using World.ownsRow_nil w _ _ _, World.ownsRow_nil w _ _ _, Texts.nil _, FarT.nil _, FarT.nil _, Below.refl _ _⟩
  case round =>
    obtain ⟨k, N3, WS, hk, rfl, hN3, hN3b, ho3, ho4, hWS, hF3, hF4, HB⟩ := hrel
    obtain ⟨A3, c3, rfl, hc3⟩ := own_form ho3
    obtain ⟨A4, c4, rfl, hc4⟩ := own_form ho4
    by_cases hlt : k < VS.length
    · obtain ⟨b, off, hAe, hcell⟩ := (hA1.below HB) k VS[k] (List.getElem?_eq_getElem hlt)
      obtain ⟨l, hl, hrow⟩ := (hT1.below HB).get hlt
      have HT := Lib.hid (take_succ_of hl)
      generalize VS[k] = v at *
      obtain ⟨Av, cv, rfl, hAv, hlc, hnilv, hlm⟩ := hrow
      subst hAe
      have hk20 : VS.length ≤ 20 := by have := e1.out; omega
      have hlci : (l.length : Int) ≤ cv := by omega
      have hlc2 : 100 < (l.length : Int) → (100 : Int) ≤ cv := by omega
      have hml : (mark2 l).length = min 100 l.length + 1 := by simp [mark2]
      have HML := Lib.hid hml
      have HN3 := Lib.hid hN3
      have tk1 : True := trivial
      have tk2 : True := trivial
      clear hM hml hN3
      go_wp2_with fail
      all_goals
        refine (clone_calls (l := l.take 100) (by rw [← bys_take]; exact hAv.take 100) (by rw [List.length_take]; omega) hnilv (by rw [List.length_take]; omega)).mono ?_
        rintro e w1 ⟨A1, c1, rfl, ho1, HBr⟩
        clear hlci hlc2
        go_wp2_with (first
          | (at_builtin; clear tk1; refine app_bytes rfl (.tmp 32) (.tmp 33) rfl wr.heap.size rfl (ho1.alloc _) rfl (news := [2#8]) rfl (by exact at_lit rfl) (by simp) (by omega) ?hbs ?_; (case hbs => (simp; have := HBr.size; omega)); intro A2 c2 w2 ho2 hb2 hg2 hc2; clear hg2; replace HBr := (HBr.alloc HBr.size _).trans hb2; clear hb2 ho1))
        obtain ⟨m2, hm2⟩ : ∃ m2, m2 = (mark2 l).length := ⟨_, rfl⟩
        replace ho2 : w2.ownsRow _ _ _ _ _ (bys (mark2 l)) := ho2
        (first | rw [show (100 + 1 : Nat) = m2 by have := HML.out; omega] at ho2 | rw [show (l.length + 1 : Nat) = m2 by have := HML.out; omega] at ho2)
        (first | rw [show (101 : Nat) = m2 by have := HML.out; omega] | rw [show (l.length + 1 : Nat) = m2 by have := HML.out; omega])
        have hm2b : 1 ≤ m2 ∧ m2 ≤ 101 := by have := HML.out; omega
        refine (wrap_ok (l := mark2 l) (own_at ho2) hm2 (own_nil ho2) hm2b.1 (by omega)).mono ?_
        rintro e w3 ⟨A5, c5, rfl, ho5, hb5⟩
        have hbx : ∀ bb, (Value.slice A2 m2 c2).ownBlock = some bb → wr.heap.size ≤ bb ∧ bb < w3.heap.size := fun bb hbb => ⟨(ho2.lt bb hbb).1, Nat.lt_of_lt_of_le (ho2.lt bb hbb).2 hb5.size⟩
        replace ho2 := own_below ho2 hb5
        replace HBr := HBr.trans (hb5.mono HBr.size)
        have ho3w := own_below ho3 HBr
        have ho4w := own_below ho4 HBr
        have hsz := HB.size
        have hszr := HBr.size
        have HM2 := Lib.hid hm2
        clear hm2
        go_wp2_with (first
          | (at_builtin; clear tk2; refine app_bytes rfl (.tmp 42) (.tmp 43) rfl w.heap.size rfl ho3w rfl (news := wrapF (mark2 l)) (by rw [length_wrapF, HM2.out]) (own_at ho5) (own_nil ho5) (by omega) (by omega) ?_; intro A6 c6 w4 ho6 hb6 hg6 hc6)
          | (at_builtin; refine app_slices rfl (.tmp 45) (.tmp 47) rfl w.heap.size rfl ((own_grown ho4w hg6.1 (own_ne ho3w ho4w (by decide))).alloc _) rfl (news := [.slice A2 m2 c2]) rfl (by exact at_alloc _ _ _ _) (by intro u hu; rw [List.mem_singleton] at hu; subst hu; rfl) (by simp) (by omega) ?_ ?_; (case _ => (simp; have := hb6.size; omega)); intro A7 c7 w5 ho7 hb7 hg7 hc7))
        have g6 : w3.grownBy w4 (Value.slice A3 N3 c3).ownBlock := hg6.1
        have l6 : (Value.slice A6 (N3 + (m2 + 7)) c6).ownBlock = (Value.slice A3 N3 c3).ownBlock ∨ (Value.slice A6 (N3 + (m2 + 7)) c6).ownBlock = some w3.heap.size := hg6.2
        have g7 : (w4.alloc (.cells #[.slice A2 m2 c2] 28)).grownBy w5 (Value.slice A4 k c4).ownBlock := hg7.1
        have l7 : (Value.slice A7 (k + 1) c7).ownBlock = (Value.slice A4 k c4).ownBlock ∨ (Value.slice A7 (k + 1) c7).ownBlock = some (w4.alloc (.cells #[.slice A2 m2 c2] 28)).heap.size := hg7.2
        have hne : ∀ l', l' ∈ (LS.take k).map mark2 → l' ≠ [] := by intro l' h'; obtain ⟨x, _, rfl⟩ := List.mem_map.1 h'; exact mark2_ne x
        have hW3 := hWS.below HBr
        have hW4 := hW3.grown g6 hF3
        have hba := (Below.refl w4.heap.size w4).alloc (Nat.le_refl _) (.cells #[.slice A2 m2 c2] 28)
        have hW5 := (hW4.below hba).grown g7 hF4
        have hR3 := own_row ho2 (by have := HM2.out; omega)
        have hR4 := hR3.grown g6 (far_old ho3 (fun bb hb => (hbx bb hb).1))
        have hR5 := (hR4.below hba).grown g7 (far_old ho4 (fun bb hb => (hbx bb hb).1))
        have hwant4 := (own_grown ho4w g6 (own_ne ho3w ho4w (by decide))).alloc (.cells #[.slice A2 m2 c2] 28)
        have hall5 := own_grown (ho6.alloc _) g7 (own_ne hwant4 (ho6.alloc _) (by decide))
        have s4 := g6.size
        refine ⟨⟨k + 1, N3 + (m2 + 7), WS ++ [.slice A2 m2 c2], by omega, by go_num, ?_, by omega, ?_, ho7, ?_, ?_, ?_, ?_⟩, by simp [intOf]; omega⟩
        · rw [HT.out, frames_snoc, List.length_append, ← HN3.out, length_wrapF, HM2.out]
        · rw [HT.out, frames_snoc]; exact hall5
        · rw [HT.out, List.map_append]; exact hW5.snoc hR5
        · exact (hF3.lies l6 (hW3.lt hne)).snoc (far_new ho3 l6 hbx)
        · refine (hF4.lies l7 ((hW4.below hba).lt hne)).snoc (far_new ho4 l7 (fun bb hb => ?_))
          have := hbx bb hb
          have := hba.size
          omega
        · exact (((HB.trans (HBr.mono hsz)).trans hb6).trans (hba.mono (by omega))).trans hb7
    · have hkM : k = VS.length := by omega
      subst hkM
      have hLS : LS.take VS.length = LS := List.take_of_length_le (by rw [hT1.1]; exact Nat.le_refl _)
      rw [hLS] at ho3 hWS hN3
      have hk20 : VS.length ≤ 20 := by have := e1.out; omega
      have hA3 := own_at ho3
      have hnil3 := own_nil ho3
      have hA4 := own_at ho4
      have hWl := Lib.hid (by have := ho4.1; omega : WS.length = VS.length)
      have hLl := Lib.hid hT1.1
      have HN3 := Lib.hid hN3
      clear hLS hN3 hM ho3 ho4 hF3 hF4 hlt hk hA1 hT1
      go_wp2_with fail
      go_loopw [52, 3] (fun s52 s3 w2 => ∃ (j : Nat) (N : Nat) (A3 : Option Addr) (c3 : Nat), j ≤ VS.length ∧ s52 = .int .i64 j ∧ s3 = .slice A3 N c3 ∧ N = (frames (LS.drop j)).length ∧ N ≤ 2160 ∧ N ≤ c3 ∧ (A3 = none → c3 = 0) ∧
          At w2 A3 (bys (frames (LS.drop j))) ∧ Below wr.heap.size wr w2) (fun s52 _ _ => VS.length - (intOf s52).toNat)
      case atStart => exact ⟨0, N3, A3, c3, by omega, rfl, rfl, by rw [HN3.out]; rfl, by omega, hc3, hnil3, hA3, Below.refl _ _⟩
      case round =>
        obtain ⟨j, N, A5, c5, hj, rfl, rfl, hN, hNb, hNc, hnil5, hA5, HBr⟩ := hrel
        clear hA3 hnil3
        by_cases hlt : j < VS.length
        · obtain ⟨b, off, hAe, hcell⟩ := (hA4.below HBr) j (WS[j]'(by rw [hWl.out]; exact hlt)) (List.getElem?_eq_getElem _)
          obtain ⟨l', hl', hrow⟩ := (hWS.below HBr).get (k := j) (by rw [hWl.out]; exact hlt)
          rw [List.getElem?_map] at hl'
          obtain ⟨l, hl, rfl⟩ := Option.map_eq_some_iff.1 hl'
          have hdr : LS.drop j = l :: LS.drop (j + 1) := drop_of hl
          have hfr : frames (LS.drop j) = wrapF (mark2 l) ++ frames (LS.drop (j + 1)) := by rw [hdr]; simp [frames]
          have hml : (mark2 l).length = min 100 l.length + 1 := by simp [mark2]
          have hun := Lib.hid (by rw [hfr]; exact unwrap_wrap (mark2 l) (frames (LS.drop (j + 1))) (by omega) (by omega) : unwrapF (frames (LS.drop j)) = (mark2 l, frames (LS.drop (j + 1)), 0))
          have hfl : (frames (LS.drop (j + 1))).length ≤ N := by rw [hN, hfr]; simp
          generalize (WS[j]'(by rw [hWl.out]; exact hlt)) = v at *
          obtain ⟨Av, cv, rfl, hAv, hlc, hnilv, hlm⟩ := hrow
          subst hAe
          have HN := Lib.hid hN
          have hfl2 : (frames (LS.drop (j + 1))).length ≤ 2160 := by omega
          clear hl' hdr hfr hN hml
          go_wp2_with fail
          refine (unwrap_to hun.out hA5 HN.out hNc hnil5 (by rw [← HN.out]; omega)).mono ?_
          rintro e w4 ⟨A6, c6, A7, c7, rfl, ho6, ho7, hb4⟩
          replace HBr := HBr.trans (hb4.mono HBr.size)
          go_wp2_with (go_at_call 18; refine (equal_calls (own_at ho6) (hAv.below hb4) rfl rfl).mono ?_; rintro e w5 ⟨rfl, rfl⟩)
          go_roundw
          case rel => exact ⟨j + 1, _, A7, c7, by omega, by go_num, rfl, rfl, hfl2, own_le ho7, own_nil ho7, own_at ho7, HBr⟩
          case measure => simp [intOf]; omega
        · have hj0 : LS.drop j = [] := List.drop_of_length_le (by rw [← hLl.out]; omega)
          rw [hj0] at hA5 hN
          have hN0 : N = 0 := by rw [hN]; rfl
          subst hN0
          clear hN
          go_wp2_with fail
          refine (unwrap_to (r := ([], [], 50)) (l := []) rfl (At.nil _ _) rfl (by omega) hnil5 (by simp)).mono ?_
          rintro e w4 ⟨A6, c6, A7, c7, rfl, ho6, ho7, hb4⟩
          go_wp2_with fail
          go_ret
          exact ⟨rfl, (HB.trans (HBr.mono HB.size)).trans (hb4.mono (Nat.le_trans HB.size HBr.size))⟩

theorem frameMany_calls {w : World} {A : Option Addr} {n c : Nat} {vs : List Value} {LL : List (List B8)} (hA : At w A vs) (hn : n = vs.length) (hnc : n ≤ c) (hnil : A = none → c = 0) (hmax : n * 24 ≤ 140737488351232) (hT : Texts w vs LL) :
    Calls Try.prog 8 #[.slice A n c] w fun e w' => e = .returned (.bool true) ∧ Below w.heap.size w w' := by
  by_cases hc : (vs.length : Int) ≤ 20
  · exact frameMany_le hA hn hnc hnil hmax hT hc
  · exact frameMany_gt hA hn hnc hnil hmax hT (by omega)

end Go.Proofs.Ytjninkdhicmniaa
