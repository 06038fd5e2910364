/- Contract: amphoraref05.Cmd. -/
import Derived.Test.YtfcacplecapgfaaE7
namespace Go.Proofs.Ytfcacplecapgfaa
open Go.RowKit
set_option linter.unusedVariables false
set_option linter.unusedSimpArgs false

theorem cmdN_ints {c : Cm} {l : List Int} (h : OkC c l) (hsum : 0 ≤ c.sum) : natsV (cmdN c) = [c.id, c.kind, c.blob, c.other, c.index, c.node, c.size, c.sum, c.k, c.m, (c.key.size : Int)] := by
  unfold natsV cmdN
  simp only [List.map_cons, List.map_nil]
  rw [Int.toNat_of_nonneg h.id.1, Int.toNat_of_nonneg h.kind.1, Int.toNat_of_nonneg h.blob.1, Int.toNat_of_nonneg h.other.1, Int.toNat_of_nonneg h.index.1, Int.toNat_of_nonneg h.node.1, Int.toNat_of_nonneg h.size.1, Int.toNat_of_nonneg hsum, Int.toNat_of_nonneg h.k.1, Int.toNat_of_nonneg h.m.1]
theorem cmdN_le {c : Cm} {l : List Int} (h : OkC c l) (hsum : c.sum < 4294967296) : ∀ x, x ∈ cmdN c → x ≤ 1152921504606846976 := by
  intro x hx
  unfold cmdN at hx
  simp only [List.mem_cons, List.not_mem_nil, or_false] at hx
  have h1 := h.id; have h2 := h.kind; have h3 := h.blob; have h4 := h.other; have h5 := h.index; have h6 := h.node; have h7 := h.size; have h8 := h.k; have h9 := h.m; have h10 := h.key
  rcases hx with rfl | rfl | rfl | rfl | rfl | rfl | rfl | rfl | rfl | rfl | rfl <;> omega

set_option maxHeartbeats 2000000 in
set_option maxRecDepth 100000 in
theorem rcmd_bad {w : World} (c : Cm) {A : Option Addr} {n d : Nat} {l : List Int} (hA : At w A (ints l)) (hn : n = l.length) (hmax : n ≤ 140737488355328) (hno : mayC c l = false) :
    Calls Try.prog 8 #[.agg #[.int .i64 c.id, .int .i64 c.kind, .string c.key, .int .i64 c.blob, .int .i64 c.other, .int .i64 c.index, .int .i64 c.node, .int .i64 c.size, .int .u32 c.sum, .int .i64 c.k, .int .i64 c.m, .slice A n d]] w fun e w' => e = .returned (.tuple #[.slice none 0 0, .int .i64 1]) ∧ Below w.heap.size w w' := by
  obtain ⟨wb, hwb, hB, hr, hz⟩ := cmd_box w c (.slice A n d)
  have HWB := Lib.hid hwb
  have HMC := Lib.hid (rmayCmd_calls (w := wb) c (d := d) (hA.below hB) hn hmax)
  rw [hno] at HMC
  obtain ⟨e0, e1, e2, e3, e4, e5, e6, e7, e8, e9, e10, e11⟩ := cells_of hr
  clear hA hn hmax hno hwb
  go_enter Try.func8, Try.ntmps8
  go_wp2_with fail
  have hwb := HWB.out
  rw [← hwb]
  clear hwb HWB
  refine HMC.out.mono ?_
  rintro e w2 ⟨rfl, hb2⟩
  go_wp2_with fail
  go_ret2
  exact ⟨rfl, hB.trans (hb2.mono hB.size)⟩

set_option maxHeartbeats 2000000 in
set_option maxRecDepth 100000 in
theorem rcmd_good {w : World} (c : Cm) {A : Option Addr} {n d : Nat} {l : List Int} (hA : At w A (ints l)) (hn : n = l.length) (hmax : n ≤ 140737488355328) (hyes : mayC c l = true) (hsum : 0 ≤ c.sum ∧ c.sum < 4294967296) :
    Calls Try.prog 8 #[.agg #[.int .i64 c.id, .int .i64 c.kind, .string c.key, .int .i64 c.blob, .int .i64 c.other, .int .i64 c.index, .int .i64 c.node, .int .i64 c.size, .int .u32 c.sum, .int .i64 c.k, .int .i64 c.m, .slice A n d]] w (RetBy w (cmdB c l) 0) := by
  obtain ⟨wb, hwb, hB, hr, hz⟩ := cmd_box w c (.slice A n d)
  have HWB := Lib.hid hwb
  have HMC := Lib.hid (rmayCmd_calls (w := wb) c (d := d) (hA.below hB) hn hmax)
  rw [hyes] at HMC
  obtain ⟨e0, e1, e2, e3, e4, e5, e6, e7, e8, e9, e10, e11⟩ := cells_of hr
  have HA := Lib.hid hA
  have HN := Lib.hid hn
  have HOK := Lib.hid (mayC_ok.1 hyes)
  have hsw : IntKind.i64.wrap c.sum = c.sum := IntWalk.i64_in _ (by omega)
  have HCO := Lib.hid (cmdN_ints HOK.out hsum.1)
  have HBD := Lib.hid (cmdN_le HOK.out hsum.2)
  clear hA hn hmax hyes hwb
  go_enter Try.func8, Try.ntmps8
  go_wp2_with fail
  have hwb := HWB.out
  rw [← hwb]
  clear hwb HWB e0 e1 e2 e3 e4 e5 e6 e7 e8 e9 e10 e11
  refine HMC.out.mono ?_
  rintro e w2 ⟨rfl, hb2⟩
  have hB2 := hB.trans (hb2.mono hB.size)
  have hr2 := (hb2.block w.heap.size (by omega)).trans hr
  have hsz2 : w.heap.size < w2.heap.size := (Array.getElem?_eq_some_iff.1 hr2).1
  obtain ⟨e0, e1, e2, e3, e4, e5, e6, e7, e8, e9, e10, e11⟩ := cells_of hr2
  clear HMC hb2 hr hB hz
  go_wp2_with fail
  have hbl := below1' w2 (.cells #[.int .i64 c.id, .int .i64 c.kind, .int .i64 c.blob, .int .i64 c.other, .int .i64 c.index, .int .i64 c.node, .int .i64 c.size, .int .i64 c.sum, .int .i64 c.k, .int .i64 c.m, .int .i64 (c.key.size : Int)] 3)
  have hat : At (w2.alloc (.cells #[.int .i64 c.id, .int .i64 c.kind, .int .i64 c.blob, .int .i64 c.other, .int .i64 c.index, .int .i64 c.node, .int .i64 c.size, .int .i64 c.sum, .int .i64 c.k, .int .i64 c.m, .int .i64 (c.key.size : Int)] 3)) (some ⟨w2.heap.size, 0, none⟩) (ints (natsV (cmdN c))) := by
    have := at_new w2 #[.int .i64 c.id, .int .i64 c.kind, .int .i64 c.blob, .int .i64 c.other, .int .i64 c.index, .int .i64 c.node, .int .i64 c.size, .int .i64 c.sum, .int .i64 c.k, .int .i64 c.m, .int .i64 (c.key.size : Int)] 3 (0, 0)
    rw [HCO.out]
    exact this
  have hr3 := (hbl.block w.heap.size hsz2).trans hr2
  have hB3 := hB2.trans (hbl.mono hB2.size)
  have hsz3 : w.heap.size < (w2.alloc (.cells #[.int .i64 c.id, .int .i64 c.kind, .int .i64 c.blob, .int .i64 c.other, .int .i64 c.index, .int .i64 c.node, .int .i64 c.size, .int .i64 c.sum, .int .i64 c.k, .int .i64 c.m, .int .i64 (c.key.size : Int)] 3)).heap.size := by simp; omega
  have HNU := Lib.hid (rnums_calls (n := 11) (c := 11) (ns := cmdN c) hat rfl HBD.out (by show 11 ≤ _; omega))
  generalize w2.alloc (.cells #[.int .i64 c.id, .int .i64 c.kind, .int .i64 c.blob, .int .i64 c.other, .int .i64 c.index, .int .i64 c.node, .int .i64 c.size, .int .i64 c.sum, .int .i64 c.k, .int .i64 c.m, .int .i64 (c.key.size : Int)] 3) = w3 at *
  have hl2 : (numsB (cmdN c)).length ≤ 99 := by
    have := numsB_len (ns := cmdN c) (fun n hn => by have := HBD.out n hn; omega)
    exact this
  have HX : Hid (cmdB c l = (numsB (cmdN c) ++ strB c.key) ++ (numB l.length) ++ numsB (natsOf l)) := by show _ = _; unfold cmdB; rw [show numsB [l.length] = numB l.length by simp [numsB]]
  generalize numsB (cmdN c) = ys at *
  clear hat hbl hr2 e0 e1 e2 e3 e4 e5 e6 e7 e8 e9 e10 e11 hB2
  refine HNU.out.mono ?_
  rintro e w4 ⟨A4, c4, rfl, ho4, hb4⟩
  have hr4 := (hb4.block w.heap.size hsz3).trans hr3
  have hB4 := hB3.trans (hb4.mono (Nat.le_of_lt hsz3))
  obtain ⟨e0, e1, e2, e3, e4, e5, e6, e7, e8, e9, e10, e11⟩ := cells_of hr4
  clear HNU hr3 hB3
  go_wp2_with fail
  have hD : Below w4.heap.size w4 w4.drew := (belowN 1 : Below w4.heap.size w4 (w4.drewN 1))
  have hoD := own_below ho4 hD
  have hBD := hB4.trans (hD.mono hB4.size)
  have hzD : w3.heap.size ≤ w4.drew.heap.size := hb4.size
  have e2D : w4.drew.cell? ⟨w.heap.size, 2, none⟩ = some (.string c.key) := e2
  have e11D : w4.drew.cell? ⟨w.heap.size, 11, none⟩ = some (.slice A n d) := e11
  refine wp_region_held_drew (S := fun w' => w'.cell? ⟨w.heap.size, 2, none⟩ = some (.string c.key) ∧ w'.cell? ⟨w.heap.size, 11, none⟩ = some (.slice A n d)) (by kernel_rfl) ⟨e2D, e11D⟩ (fun hHeld => ?_)
  generalize w4.drew = WD at *
  clear ho4 hD hr4 e0 e1 e2 e3 e4 e5 e6 e7 e8 e9 e10 e11 hB4 hb4
  refine wpAnyH_take (i := 0) (v := ?_) rfl (by kernel_rfl) (by kernel_rfl) (by kernel_rfl) (fun _ _ _ h => h) (Or.inl ⟨by rfl, ?_⟩) (by assumption) ?_; rotate_left; (intro w hSw; (try dsimp only at hSw); go_simp; (first | done | (with_reducible rfl))); (try simp only [List.getElem_toArray, List.getElem_cons_succ, List.getElem_cons_zero, Act.put, List.setIfInBounds_toArray, List.set_cons_zero, List.set_cons_succ])
  refine wpAnyH_take (i := 1) (v := ?_) rfl (by kernel_rfl) (by kernel_rfl) (by kernel_rfl) (fun _ _ _ h => h) (Or.inl ⟨by rfl, ?_⟩) (by assumption) ?_; rotate_left; (intro w hSw; (try dsimp only at hSw); go_simp; (first | done | (with_reducible rfl))); (try simp only [List.getElem_toArray, List.getElem_cons_succ, List.getElem_cons_zero, Act.put, List.setIfInBounds_toArray, List.set_cons_zero, List.set_cons_succ])
  refine wpAnyH_take (i := 2) (v := ?_) rfl (by kernel_rfl) (by kernel_rfl) (by kernel_rfl) (fun _ _ _ h => h) (Or.inl ⟨by rfl, ?_⟩) (by assumption) ?_; rotate_left; (intro w hSw; (try dsimp only at hSw); go_simp; (first | done | (with_reducible rfl))); (try simp only [List.getElem_toArray, List.getElem_cons_succ, List.getElem_cons_zero, Act.put, List.setIfInBounds_toArray, List.set_cons_zero, List.set_cons_succ])
  refine wpAnyH_take (i := 4) (v := ?_) rfl (by kernel_rfl) (by kernel_rfl) (by kernel_rfl) (fun _ _ _ h => h) (Or.inl ⟨by rfl, ?_⟩) (by assumption) ?_; rotate_left; (intro w hSw; (try dsimp only at hSw); go_simp; (first | done | (with_reducible rfl))); (try simp only [List.getElem_toArray, List.getElem_cons_succ, List.getElem_cons_zero, Act.put, List.setIfInBounds_toArray, List.set_cons_zero, List.set_cons_succ])
  refine wpAnyH_take (i := 5) (v := ?_) rfl (by kernel_rfl) (by kernel_rfl) (by kernel_rfl) (fun _ _ _ h => h) (Or.inl ⟨by rfl, ?_⟩) (by assumption) ?_; rotate_left; (intro w hSw; (try dsimp only at hSw); go_simp; (first | done | (with_reducible rfl))); (try simp only [List.getElem_toArray, List.getElem_cons_succ, List.getElem_cons_zero, Act.put, List.setIfInBounds_toArray, List.set_cons_zero, List.set_cons_succ])
  refine wpAnyH_take (i := 6) (v := ?_) rfl (by kernel_rfl) (by kernel_rfl) (by kernel_rfl) (fun _ _ _ h => h) (Or.inl ⟨by rfl, ?_⟩) (by assumption) ?_; rotate_left; (intro w hSw; (try dsimp only at hSw); go_simp; (first | done | (with_reducible rfl))); (try simp only [List.getElem_toArray, List.getElem_cons_succ, List.getElem_cons_zero, Act.put, List.setIfInBounds_toArray, List.set_cons_zero, List.set_cons_succ])
  refine wpAnyH_ready (rs := [3]) (by kernel_rfl) (by simp) ?_; refine AllReadyH.cons rfl (fun KK hKK => ?_) AllReadyH.nil
  refine step_app_str rfl (.tmp 36) (.tmp 38) rfl w3.heap.size (v := .slice A4 ys.length c4) rfl rfl hoD rfl (by have := HOK.out.key; omega) hzD ?_
  intro A5 c5 w5 ho5 hg5
  have hb5 : Below w3.heap.size WD w5 := below_grown (Below.refl _ _) hg5.1 hoD hzD
  have e25 := (hb5.cell (p := ⟨w.heap.size, 2, none⟩) hsz3).trans e2D
  have e115 := (hb5.cell (p := ⟨w.heap.size, 11, none⟩) hsz3).trans e11D
  have hB5 := hBD.trans (hb5.mono (Nat.le_of_lt hsz3))
  have hz5 := Nat.le_trans hzD hb5.size
  refine hKK.out _ _ ⟨e25, e115⟩ (fun hHeld => ?_)
  clear hKK KK hg5 hb5 e2D e11D hBD hzD hoD
  (try simp only [List.getElem_toArray, List.getElem_cons_succ, List.getElem_cons_zero, Act.put, List.setIfInBounds_toArray, List.set_cons_zero, List.set_cons_succ])
  have HNM := Lib.hid (num_calls (w := w5) n (by have := HN.out; have := HOK.out.len; omega))
  refine wpAnyH_ready (rs := [7]) (by kernel_rfl) (by simp) ?_; refine AllReadyH.cons rfl (fun KK hKK => ?_) AllReadyH.nil
  go_simp
  refine HNM.out.mono ?_
  rintro e w6 ⟨A6, c6, rfl, ho6, hb6⟩
  go_wp2_with fail
  have ho56 := own_below ho5 hb6
  have e26 := (hb6.cell (p := ⟨w.heap.size, 2, none⟩) (block_lt e25)).trans e25
  have e116 := (hb6.cell (p := ⟨w.heap.size, 11, none⟩) (block_lt e115)).trans e115
  have hB6 := hB5.trans (hb6.mono hB5.size)
  have hz6 := Nat.le_trans hz5 hb6.size
  have hat6 := own_at ho6
  have hnil6 := own_nil ho6
  refine hKK.out _ _ ⟨e26, e116⟩ (fun hHeld => ?_)
  clear hKK KK hb6 e25 e115 hB5 hz5 HNM ho5 ho6
  (try simp only [List.getElem_toArray, List.getElem_cons_succ, List.getElem_cons_zero, Act.put, List.setIfInBounds_toArray, List.set_cons_zero, List.set_cons_succ])
  have hnl := numB_len (n := n) (by have := HN.out; have := HOK.out.len; omega)
  rw [← HN.out] at HX
  generalize numB n = zn at *
  have hk8 := HOK.out.key
  refine wpAnyH_ready (rs := [8]) (by kernel_rfl) (by simp) ?_; refine AllReadyH.cons rfl (fun KK hKK => ?_) AllReadyH.nil
  refine step_app_bytes rfl (.tmp 39) (.tmp 43) rfl w3.heap.size (v := .slice A5 (ys.length + c.key.size) c5) rfl ho56 rfl (news := zn) rfl hat6 hnil6 (by omega) hz6 ?_
  intro A7 c7 w7 ho7 hb7 hg7 hc7
  have e27 := (hb7.cell (p := ⟨w.heap.size, 2, none⟩) hsz3).trans e26
  have e117 := (hb7.cell (p := ⟨w.heap.size, 11, none⟩) hsz3).trans e116
  have hB7 := hB6.trans (hb7.mono (Nat.le_of_lt hsz3))
  have hz7 := Nat.le_trans hz6 hb7.size
  refine hKK.out _ _ ⟨e27, e117⟩ (fun hHeld => ?_)
  clear hKK KK hb7 hg7 e26 e116 hB6 hz6 ho56 hat6 hnil6
  (try simp only [List.getElem_toArray, List.getElem_cons_succ, List.getElem_cons_zero, Act.put, List.setIfInBounds_toArray, List.set_cons_zero, List.set_cons_succ])
  refine wpAnyH_take (i := 9) (v := ?_) rfl (by kernel_rfl) (by kernel_rfl) (by kernel_rfl) (fun _ _ _ h => h) (Or.inl ⟨by rfl, ?_⟩) (by assumption) ?_; rotate_left; (intro w hSw; (try dsimp only at hSw); go_simp; (first | done | (with_reducible rfl))); (try simp only [List.getElem_toArray, List.getElem_cons_succ, List.getElem_cons_zero, Act.put, List.setIfInBounds_toArray, List.set_cons_zero, List.set_cons_succ])
  refine wpAnyH_done (by kernel_rfl) ?_ _
  have hno : natsV (natsOf l) = l := natsV_of fun x hx => (HOK.out.nodes x hx).1
  have hA7 : At w7 A (ints (natsV (natsOf l))) := by rw [hno]; exact HA.out.below hB7
  have hnol : (natsOf l).length = l.length := by simp [natsOf]
  have hbn : ∀ x, x ∈ natsOf l → x ≤ 1152921504606846976 := by
    intro x hx
    obtain ⟨y, hy, rfl⟩ := List.mem_map.1 hx
    have := HOK.out.nodes y hy
    omega
  have HLA := Lib.hid (rnums_calls (n := n) (c := d) (ns := natsOf l) hA7 (by rw [HN.out, hnol]) hbn (by have := HOK.out.len; omega))
  have hll : (numsB (natsOf l)).length ≤ 9 * 255 := by
    have := numsB_len (ns := natsOf l) (fun x hx => by have := hbn x hx; omega)
    have := HOK.out.len
    omega
  generalize numsB (natsOf l) = zl at *
  clear hHeld
  clear hno hA7 hnol hbn e27
  go_wp2_with fail
  refine HLA.out.mono ?_
  rintro e w8 ⟨A8, c8, rfl, ho8, hb8⟩
  have ho78 := own_below ho7 hb8
  have hat8 := own_at ho8
  have hnil8 := own_nil ho8
  have hB8 := hB7.trans (hb8.mono hB7.size)
  have hz8 := Nat.le_trans hz7 hb8.size
  clear HLA ho7 hb8 ho8 hB7 hz7
  go_wp2_with (at_builtin; refine app_bytes rfl (.tmp 45) (.tmp 48) rfl w3.heap.size (v := .slice A7 (ys.length + c.key.size + zn.length) c7) rfl ho78 rfl rfl hat8 hnil8 (by omega) hz8 ?_; intro A9 c9 w9 ho9 hb9 hg9 hc9; clear hg9)
  go_ret2
  rw [HX.out]
  refine ⟨A9, c9, ?_, own_at ho9, hB8.trans (hb9.mono (Nat.le_of_lt hsz3))⟩
  rw [List.length_append, List.length_append, List.length_append, length_strB]
  rfl

theorem rcmd_calls {w : World} (c : Cm) {A : Option Addr} {n d : Nat} {l : List Int} (hA : At w A (ints l)) (hn : n = l.length) (hmax : n ≤ 140737488355328) (hsum : 0 ≤ c.sum ∧ c.sum < 4294967296) :
    Calls Try.prog 8 #[.agg #[.int .i64 c.id, .int .i64 c.kind, .string c.key, .int .i64 c.blob, .int .i64 c.other, .int .i64 c.index, .int .i64 c.node, .int .i64 c.size, .int .u32 c.sum, .int .i64 c.k, .int .i64 c.m, .slice A n d]] w (RetBy w (encC c l) (encCE c l)) := by
  unfold encC encCE
  by_cases h : mayC c l = true
  · rw [if_pos h, if_pos h]
    exact rcmd_good c hA hn hmax h hsum
  · rw [if_neg h, if_neg h]
    exact (rcmd_bad c hA hn hmax (by simpa using h)).mono fun e w' ⟨h1, h2⟩ => ⟨none, 0, h1, At.nil _ _, h2⟩

end Go.Proofs.Ytfcacplecapgfaa
