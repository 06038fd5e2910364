/- Contract: amphoraref05.Msg. -/
import Derived.Test.YtfcacplecapgfaaG12
import Derived.Test.YtfcacplecapgfaaG14
namespace Go.Proofs.Ytfcacplecapgfaa
open Go.RowKit
set_option linter.unusedVariables false
set_option linter.unusedSimpArgs false

theorem ne_nil_at {w : World} {A : Option Addr} {l : List B8} {c : Nat} (h : At w A (bys l)) (hl : 0 < l.length) : A = none → c = 0 := by
  obtain ⟨b, o, rfl⟩ := some_of_at h (by simpa using hl)
  intro hh; cases hh
theorem cmdB_pos (c : Cm) (l : List Int) : 0 < (cmdB c l).length := by
  unfold cmdB cmdN
  rw [numsB_cons]
  simp [numB]
set_option maxHeartbeats 4000000 in
set_option maxRecDepth 100000 in
theorem rmsg_bad {w : World} {m : Mg} {A V B : Option Addr} {d e f : Nat} (h : MgAt w A d V B f m) (hok : mayM m = false) :
    Calls Try.prog 17 #[.agg #[.int .i64 m.h.kind, .int .i64 m.h.frm, .int .i64 m.h.to, .int .i64 m.h.ballot, .int .i64 m.h.slot, .int .i64 m.h.blob, .int .i64 m.h.index, .int .i64 m.h.epoch, .int .i64 m.h.id, .bool m.h.ok, .int .i64 m.h.cmd.id, .int .i64 m.h.cmd.kind, .string m.h.cmd.key, .int .i64 m.h.cmd.blob, .int .i64 m.h.cmd.other, .int .i64 m.h.cmd.index, .int .i64 m.h.cmd.node, .int .i64 m.h.cmd.size, .int .u32 m.h.cmd.sum, .int .i64 m.h.cmd.k, .int .i64 m.h.cmd.m, .slice A m.cn.length d, .slice V m.vs.length e, .slice B m.bs.length f]] w fun e w' => e = .returned (.tuple #[.slice none 0 0, .int .i64 1]) ∧ Below w.heap.size w w' := by
  obtain ⟨mh, cn, vs, bs⟩ := m
  simp only
  obtain ⟨wb, hwb, hBb, hrb, hzb⟩ := any_box w #[.int .i64 mh.kind, .int .i64 mh.frm, .int .i64 mh.to, .int .i64 mh.ballot, .int .i64 mh.slot, .int .i64 mh.blob, .int .i64 mh.index, .int .i64 mh.epoch, .int .i64 mh.id, .bool mh.ok, .int .i64 mh.cmd.id, .int .i64 mh.cmd.kind, .string mh.cmd.key, .int .i64 mh.cmd.blob, .int .i64 mh.cmd.other, .int .i64 mh.cmd.index, .int .i64 mh.cmd.node, .int .i64 mh.cmd.size, .int .u32 mh.cmd.sum, .int .i64 mh.cmd.k, .int .i64 mh.cmd.m, .slice A cn.length d, .slice V vs.length e, .slice B bs.length f] 40
  have HW := Lib.hid hwb
  have HMC := Lib.hid (rmayMsg_calls (e := e) (h.below hBb))
  rw [hok] at HMC
  simp only at HMC
  have hatM : At (w.alloc (.cells #[.int .i64 mh.kind, .int .i64 mh.frm, .int .i64 mh.to, .int .i64 mh.ballot, .int .i64 mh.slot, .int .i64 mh.blob, .int .i64 mh.index, .int .i64 mh.epoch, .int .i64 mh.id, .bool mh.ok, .int .i64 mh.cmd.id, .int .i64 mh.cmd.kind, .string mh.cmd.key, .int .i64 mh.cmd.blob, .int .i64 mh.cmd.other, .int .i64 mh.cmd.index, .int .i64 mh.cmd.node, .int .i64 mh.cmd.size, .int .u32 mh.cmd.sum, .int .i64 mh.cmd.k, .int .i64 mh.cmd.m, .slice A cn.length d, .slice V vs.length e, .slice B bs.length f] 40)) (some ⟨w.heap.size, 0, none⟩) [.int .i64 mh.kind, .int .i64 mh.frm, .int .i64 mh.to, .int .i64 mh.ballot, .int .i64 mh.slot, .int .i64 mh.blob, .int .i64 mh.index, .int .i64 mh.epoch, .int .i64 mh.id, .bool mh.ok, .int .i64 mh.cmd.id, .int .i64 mh.cmd.kind, .string mh.cmd.key, .int .i64 mh.cmd.blob, .int .i64 mh.cmd.other, .int .i64 mh.cmd.index, .int .i64 mh.cmd.node, .int .i64 mh.cmd.size, .int .u32 mh.cmd.sum, .int .i64 mh.cmd.k, .int .i64 mh.cmd.m, .slice A cn.length d, .slice V vs.length e, .slice B bs.length f] := at_alloc w #[.int .i64 mh.kind, .int .i64 mh.frm, .int .i64 mh.to, .int .i64 mh.ballot, .int .i64 mh.slot, .int .i64 mh.blob, .int .i64 mh.index, .int .i64 mh.epoch, .int .i64 mh.id, .bool mh.ok, .int .i64 mh.cmd.id, .int .i64 mh.cmd.kind, .string mh.cmd.key, .int .i64 mh.cmd.blob, .int .i64 mh.cmd.other, .int .i64 mh.cmd.index, .int .i64 mh.cmd.node, .int .i64 mh.cmd.size, .int .u32 mh.cmd.sum, .int .i64 mh.cmd.k, .int .i64 mh.cmd.m, .slice A cn.length d, .slice V vs.length e, .slice B bs.length f] 40 (0, 0)
  clear hwb hrb h hok
  go_enter Try.func17, Try.ntmps17
  go_wp2_with (refine wpList_load_at rfl 40 (.tmp 1) rfl rfl hatM Try.underlying40 rfl (by kernel_rfl) ?_)
  have hwb := HW.out
  rw [← hwb]
  clear hwb HW hatM
  refine HMC.out.mono ?_
  rintro e1 w2 ⟨rfl, hb2⟩
  go_wp2_with fail
  go_ret2
  exact ⟨rfl, hBb.trans (hb2.mono hBb.size)⟩

set_option maxHeartbeats 2000000 in
set_option maxRecDepth 100000 in
theorem rcmd_own {w : World} (c : Cm) {A : Option Addr} {n d : Nat} {l : List Int} (hA : At w A (ints l)) (hn : n = l.length) (hmax : n ≤ 140737488355328) (hyes : mayC c l = true) (hsum : 0 ≤ c.sum ∧ c.sum < 4294967296) :
    Calls Try.prog 8 #[.agg #[.int .i64 c.id, .int .i64 c.kind, .string c.key, .int .i64 c.blob, .int .i64 c.other, .int .i64 c.index, .int .i64 c.node, .int .i64 c.size, .int .u32 c.sum, .int .i64 c.k, .int .i64 c.m, .slice A n d]] w (RetBo w (cmdB c l) 0) := by
  obtain ⟨wb, hwb, hB, hr, hz⟩ := cmd_box w c (.slice A n d)
  have HWB := Lib.hid hwb
  have HMC := Lib.hid (rmayCmd_calls (w := wb) c (d := d) (hA.below hB) hn hmax)
  rw [hyes] at HMC
  obtain ⟨e0, e1, e2, e3, e4, e5, e6, e7, e8, e9, e10, e11⟩ := cells_of hr
  have HA := Lib.hid hA
  have HN := Lib.hid hn
  have HOK := Lib.hid (mayC_ok.1 hyes)
  have hsw : IntKind.i64.wrap c.sum = c.sum := IntWalk.i64_in _ (by omega)
  have HCO := Lib.hid (cmdN_ints HOK.out hsum.1)
  have HBD := Lib.hid (cmdN_le HOK.out hsum.2)
  clear hA hn hmax hyes hwb
  go_enter Try.func8, Try.ntmps8
  go_wp2_with fail
  have hwb := HWB.out
  rw [← hwb]
  clear hwb HWB e0 e1 e2 e3 e4 e5 e6 e7 e8 e9 e10 e11
  refine HMC.out.mono ?_
  rintro e w2 ⟨rfl, hb2⟩
  have hB2 := hB.trans (hb2.mono hB.size)
  have hr2 := (hb2.block w.heap.size (by omega)).trans hr
  have hsz2 : w.heap.size < w2.heap.size := (Array.getElem?_eq_some_iff.1 hr2).1
  obtain ⟨e0, e1, e2, e3, e4, e5, e6, e7, e8, e9, e10, e11⟩ := cells_of hr2
  clear HMC hb2 hr hB hz
  go_wp2_with fail
  have hbl := below1' w2 (.cells #[.int .i64 c.id, .int .i64 c.kind, .int .i64 c.blob, .int .i64 c.other, .int .i64 c.index, .int .i64 c.node, .int .i64 c.size, .int .i64 c.sum, .int .i64 c.k, .int .i64 c.m, .int .i64 (c.key.size : Int)] 3)
  have hat : At (w2.alloc (.cells #[.int .i64 c.id, .int .i64 c.kind, .int .i64 c.blob, .int .i64 c.other, .int .i64 c.index, .int .i64 c.node, .int .i64 c.size, .int .i64 c.sum, .int .i64 c.k, .int .i64 c.m, .int .i64 (c.key.size : Int)] 3)) (some ⟨w2.heap.size, 0, none⟩) (ints (natsV (cmdN c))) := by
    have := at_new w2 #[.int .i64 c.id, .int .i64 c.kind, .int .i64 c.blob, .int .i64 c.other, .int .i64 c.index, .int .i64 c.node, .int .i64 c.size, .int .i64 c.sum, .int .i64 c.k, .int .i64 c.m, .int .i64 (c.key.size : Int)] 3 (0, 0)
    rw [HCO.out]
    exact this
  have hr3 := (hbl.block w.heap.size hsz2).trans hr2
  have hB3 := hB2.trans (hbl.mono hB2.size)
  have hsz3 : w.heap.size < (w2.alloc (.cells #[.int .i64 c.id, .int .i64 c.kind, .int .i64 c.blob, .int .i64 c.other, .int .i64 c.index, .int .i64 c.node, .int .i64 c.size, .int .i64 c.sum, .int .i64 c.k, .int .i64 c.m, .int .i64 (c.key.size : Int)] 3)).heap.size := by simp; omega
  have HNU := Lib.hid (rnums_calls (n := 11) (c := 11) (ns := cmdN c) hat rfl HBD.out (by show 11 ≤ _; omega))
  generalize w2.alloc (.cells #[.int .i64 c.id, .int .i64 c.kind, .int .i64 c.blob, .int .i64 c.other, .int .i64 c.index, .int .i64 c.node, .int .i64 c.size, .int .i64 c.sum, .int .i64 c.k, .int .i64 c.m, .int .i64 (c.key.size : Int)] 3) = w3 at *
  have hl2 : (numsB (cmdN c)).length ≤ 99 := by
    have := numsB_len (ns := cmdN c) (fun n hn => by have := HBD.out n hn; omega)
    exact this
  have HX : Hid (cmdB c l = (numsB (cmdN c) ++ strB c.key) ++ (numB l.length) ++ numsB (natsOf l)) := by show _ = _; unfold cmdB; rw [show numsB [l.length] = numB l.length by simp [numsB]]
  generalize numsB (cmdN c) = ys at *
  clear hat hbl hr2 e0 e1 e2 e3 e4 e5 e6 e7 e8 e9 e10 e11 hB2
  refine HNU.out.mono ?_
  rintro e w4 ⟨A4, c4, rfl, ho4, hb4⟩
  have hr4 := (hb4.block w.heap.size hsz3).trans hr3
  have hB4 := hB3.trans (hb4.mono (Nat.le_of_lt hsz3))
  obtain ⟨e0, e1, e2, e3, e4, e5, e6, e7, e8, e9, e10, e11⟩ := cells_of hr4
  clear HNU hr3 hB3
  go_wp2_with fail
  have hD : Below w4.heap.size w4 w4.drew := (belowN 1 : Below w4.heap.size w4 (w4.drewN 1))
  have hoD := own_below ho4 hD
  have hBD := hB4.trans (hD.mono hB4.size)
  have hzD : w3.heap.size ≤ w4.drew.heap.size := hb4.size
  have e2D : w4.drew.cell? ⟨w.heap.size, 2, none⟩ = some (.string c.key) := e2
  have e11D : w4.drew.cell? ⟨w.heap.size, 11, none⟩ = some (.slice A n d) := e11
  refine wp_region_held_drew (S := fun w' => w'.cell? ⟨w.heap.size, 2, none⟩ = some (.string c.key) ∧ w'.cell? ⟨w.heap.size, 11, none⟩ = some (.slice A n d)) (by kernel_rfl) ⟨e2D, e11D⟩ (fun hHeld => ?_)
  generalize w4.drew = WD at *
  clear ho4 hD hr4 e0 e1 e2 e3 e4 e5 e6 e7 e8 e9 e10 e11 hB4 hb4
  refine wpAnyH_take (i := 0) (v := ?_) rfl (by kernel_rfl) (by kernel_rfl) (by kernel_rfl) (fun _ _ _ h => h) (Or.inl ⟨by rfl, ?_⟩) (by assumption) ?_; rotate_left; (intro w hSw; (try dsimp only at hSw); go_simp; (first | done | (with_reducible rfl))); (try simp only [List.getElem_toArray, List.getElem_cons_succ, List.getElem_cons_zero, Act.put, List.setIfInBounds_toArray, List.set_cons_zero, List.set_cons_succ])
  refine wpAnyH_take (i := 1) (v := ?_) rfl (by kernel_rfl) (by kernel_rfl) (by kernel_rfl) (fun _ _ _ h => h) (Or.inl ⟨by rfl, ?_⟩) (by assumption) ?_; rotate_left; (intro w hSw; (try dsimp only at hSw); go_simp; (first | done | (with_reducible rfl))); (try simp only [List.getElem_toArray, List.getElem_cons_succ, List.getElem_cons_zero, Act.put, List.setIfInBounds_toArray, List.set_cons_zero, List.set_cons_succ])
  refine wpAnyH_take (i := 2) (v := ?_) rfl (by kernel_rfl) (by kernel_rfl) (by kernel_rfl) (fun _ _ _ h => h) (Or.inl ⟨by rfl, ?_⟩) (by assumption) ?_; rotate_left; (intro w hSw; (try dsimp only at hSw); go_simp; (first | done | (with_reducible rfl))); (try simp only [List.getElem_toArray, List.getElem_cons_succ, List.getElem_cons_zero, Act.put, List.setIfInBounds_toArray, List.set_cons_zero, List.set_cons_succ])
  refine wpAnyH_take (i := 4) (v := ?_) rfl (by kernel_rfl) (by kernel_rfl) (by kernel_rfl) (fun _ _ _ h => h) (Or.inl ⟨by rfl, ?_⟩) (by assumption) ?_; rotate_left; (intro w hSw; (try dsimp only at hSw); go_simp; (first | done | (with_reducible rfl))); (try simp only [List.getElem_toArray, List.getElem_cons_succ, List.getElem_cons_zero, Act.put, List.setIfInBounds_toArray, List.set_cons_zero, List.set_cons_succ])
  refine wpAnyH_take (i := 5) (v := ?_) rfl (by kernel_rfl) (by kernel_rfl) (by kernel_rfl) (fun _ _ _ h => h) (Or.inl ⟨by rfl, ?_⟩) (by assumption) ?_; rotate_left; (intro w hSw; (try dsimp only at hSw); go_simp; (first | done | (with_reducible rfl))); (try simp only [List.getElem_toArray, List.getElem_cons_succ, List.getElem_cons_zero, Act.put, List.setIfInBounds_toArray, List.set_cons_zero, List.set_cons_succ])
  refine wpAnyH_take (i := 6) (v := ?_) rfl (by kernel_rfl) (by kernel_rfl) (by kernel_rfl) (fun _ _ _ h => h) (Or.inl ⟨by rfl, ?_⟩) (by assumption) ?_; rotate_left; (intro w hSw; (try dsimp only at hSw); go_simp; (first | done | (with_reducible rfl))); (try simp only [List.getElem_toArray, List.getElem_cons_succ, List.getElem_cons_zero, Act.put, List.setIfInBounds_toArray, List.set_cons_zero, List.set_cons_succ])
  refine wpAnyH_ready (rs := [3]) (by kernel_rfl) (by simp) ?_; refine AllReadyH.cons rfl (fun KK hKK => ?_) AllReadyH.nil
  refine step_app_str rfl (.tmp 36) (.tmp 38) rfl w3.heap.size (v := .slice A4 ys.length c4) rfl rfl hoD rfl (by have := HOK.out.key; omega) hzD ?_
  intro A5 c5 w5 ho5 hg5
  have hb5 : Below w3.heap.size WD w5 := below_grown (Below.refl _ _) hg5.1 hoD hzD
  have e25 := (hb5.cell (p := ⟨w.heap.size, 2, none⟩) hsz3).trans e2D
  have e115 := (hb5.cell (p := ⟨w.heap.size, 11, none⟩) hsz3).trans e11D
  have hB5 := hBD.trans (hb5.mono (Nat.le_of_lt hsz3))
  have hz5 := Nat.le_trans hzD hb5.size
  refine hKK.out _ _ ⟨e25, e115⟩ (fun hHeld => ?_)
  clear hKK KK hg5 hb5 e2D e11D hBD hzD hoD
  (try simp only [List.getElem_toArray, List.getElem_cons_succ, List.getElem_cons_zero, Act.put, List.setIfInBounds_toArray, List.set_cons_zero, List.set_cons_succ])
  have HNM := Lib.hid (num_calls (w := w5) n (by have := HN.out; have := HOK.out.len; omega))
  refine wpAnyH_ready (rs := [7]) (by kernel_rfl) (by simp) ?_; refine AllReadyH.cons rfl (fun KK hKK => ?_) AllReadyH.nil
  go_simp
  refine HNM.out.mono ?_
  rintro e w6 ⟨A6, c6, rfl, ho6, hb6⟩
  go_wp2_with fail
  have ho56 := own_below ho5 hb6
  have e26 := (hb6.cell (p := ⟨w.heap.size, 2, none⟩) (block_lt e25)).trans e25
  have e116 := (hb6.cell (p := ⟨w.heap.size, 11, none⟩) (block_lt e115)).trans e115
  have hB6 := hB5.trans (hb6.mono hB5.size)
  have hz6 := Nat.le_trans hz5 hb6.size
  have hat6 := own_at ho6
  have hnil6 := own_nil ho6
  refine hKK.out _ _ ⟨e26, e116⟩ (fun hHeld => ?_)
  clear hKK KK hb6 e25 e115 hB5 hz5 HNM ho5 ho6
  (try simp only [List.getElem_toArray, List.getElem_cons_succ, List.getElem_cons_zero, Act.put, List.setIfInBounds_toArray, List.set_cons_zero, List.set_cons_succ])
  have hnl := numB_len (n := n) (by have := HN.out; have := HOK.out.len; omega)
  rw [← HN.out] at HX
  generalize numB n = zn at *
  have hk8 := HOK.out.key
  refine wpAnyH_ready (rs := [8]) (by kernel_rfl) (by simp) ?_; refine AllReadyH.cons rfl (fun KK hKK => ?_) AllReadyH.nil
  refine step_app_bytes rfl (.tmp 39) (.tmp 43) rfl w3.heap.size (v := .slice A5 (ys.length + c.key.size) c5) rfl ho56 rfl (news := zn) rfl hat6 hnil6 (by omega) hz6 ?_
  intro A7 c7 w7 ho7 hb7 hg7 hc7
  have e27 := (hb7.cell (p := ⟨w.heap.size, 2, none⟩) hsz3).trans e26
  have e117 := (hb7.cell (p := ⟨w.heap.size, 11, none⟩) hsz3).trans e116
  have hB7 := hB6.trans (hb7.mono (Nat.le_of_lt hsz3))
  have hz7 := Nat.le_trans hz6 hb7.size
  refine hKK.out _ _ ⟨e27, e117⟩ (fun hHeld => ?_)
  clear hKK KK hb7 hg7 e26 e116 hB6 hz6 ho56 hat6 hnil6
  (try simp only [List.getElem_toArray, List.getElem_cons_succ, List.getElem_cons_zero, Act.put, List.setIfInBounds_toArray, List.set_cons_zero, List.set_cons_succ])
  refine wpAnyH_take (i := 9) (v := ?_) rfl (by kernel_rfl) (by kernel_rfl) (by kernel_rfl) (fun _ _ _ h => h) (Or.inl ⟨by rfl, ?_⟩) (by assumption) ?_; rotate_left; (intro w hSw; (try dsimp only at hSw); go_simp; (first | done | (with_reducible rfl))); (try simp only [List.getElem_toArray, List.getElem_cons_succ, List.getElem_cons_zero, Act.put, List.setIfInBounds_toArray, List.set_cons_zero, List.set_cons_succ])
  refine wpAnyH_done (by kernel_rfl) ?_ _
  have hno : natsV (natsOf l) = l := natsV_of fun x hx => (HOK.out.nodes x hx).1
  have hA7 : At w7 A (ints (natsV (natsOf l))) := by rw [hno]; exact HA.out.below hB7
  have hnol : (natsOf l).length = l.length := by simp [natsOf]
  have hbn : ∀ x, x ∈ natsOf l → x ≤ 1152921504606846976 := by
    intro x hx
    obtain ⟨y, hy, rfl⟩ := List.mem_map.1 hx
    have := HOK.out.nodes y hy
    omega
  have HLA := Lib.hid (rnums_calls (n := n) (c := d) (ns := natsOf l) hA7 (by rw [HN.out, hnol]) hbn (by have := HOK.out.len; omega))
  have hll : (numsB (natsOf l)).length ≤ 9 * 255 := by
    have := numsB_len (ns := natsOf l) (fun x hx => by have := hbn x hx; omega)
    have := HOK.out.len
    omega
  generalize numsB (natsOf l) = zl at *
  clear hHeld
  clear hno hA7 hnol hbn e27
  go_wp2_with fail
  refine HLA.out.mono ?_
  rintro e w8 ⟨A8, c8, rfl, ho8, hb8⟩
  have ho78 := own_below ho7 hb8
  have hat8 := own_at ho8
  have hnil8 := own_nil ho8
  have hB8 := hB7.trans (hb8.mono hB7.size)
  have hz8 := Nat.le_trans hz7 hb8.size
  clear HLA ho7 hb8 ho8 hB7 hz7
  go_wp2_with (at_builtin; refine app_bytes rfl (.tmp 45) (.tmp 48) rfl w3.heap.size (v := .slice A7 (ys.length + c.key.size + zn.length) c7) rfl ho78 rfl rfl hat8 hnil8 (by omega) hz8 ?_; intro A9 c9 w9 ho9 hb9 hg9 hc9; clear hg9)
  go_ret2
  rw [HX.out]
  refine ⟨A9, c9, ?_, (by rw [show (ys ++ strB c.key ++ zn ++ zl).length = ys.length + c.key.size + zn.length + zl.length by simp only [List.length_append, length_strB]]; exact own_lower ho9 (by omega)), hB8.trans (hb9.mono (Nat.le_of_lt hsz3))⟩
  rw [List.length_append, List.length_append, List.length_append, length_strB]
  rfl


set_option maxHeartbeats 16000000 in
set_option maxRecDepth 100000 in
theorem rmsg_good {w : World} {m : Mg} {A V B : Option Addr} {d e f : Nat} (h : MgAt w A d V B f m) (hok : mayM m = true) :
    Calls Try.prog 17 #[.agg #[.int .i64 m.h.kind, .int .i64 m.h.frm, .int .i64 m.h.to, .int .i64 m.h.ballot, .int .i64 m.h.slot, .int .i64 m.h.blob, .int .i64 m.h.index, .int .i64 m.h.epoch, .int .i64 m.h.id, .bool m.h.ok, .int .i64 m.h.cmd.id, .int .i64 m.h.cmd.kind, .string m.h.cmd.key, .int .i64 m.h.cmd.blob, .int .i64 m.h.cmd.other, .int .i64 m.h.cmd.index, .int .i64 m.h.cmd.node, .int .i64 m.h.cmd.size, .int .u32 m.h.cmd.sum, .int .i64 m.h.cmd.k, .int .i64 m.h.cmd.m, .slice A m.cn.length d, .slice V m.vs.length e, .slice B m.bs.length f]] w (RetBy w (msgB m) 0) := by
  have HOK := Lib.hid (mayM_ok.1 hok)
  have hmn : natsV (msgN m) = [m.h.kind, m.h.frm, m.h.to, m.h.ballot, m.h.slot, m.h.blob, m.h.index, m.h.epoch, m.h.id] := msgN_ints HOK.out
  have hml := msgN_le HOK.out
  have HX0 : Hid (msgB m = (numsB (msgN m) ++ [okB m.h.ok]) ++ (cmdB m.h.cmd m.cn ++ (numB m.vs.length ++ (votesB m.vs ++ (numB m.bs.length ++ m.bs))))) := by show _ = _; unfold msgB; rw [← numsB_one m.vs.length, ← numsB_one m.bs.length]; simp only [List.append_assoc]
  generalize msgB m = res at *
  generalize msgN m = mN at *
  obtain ⟨mh, cn, vs, bs⟩ := m
  simp only at hmn HX0 ⊢
  obtain ⟨wb, hwb, hBb, hrb, hzb⟩ := any_box w #[.int .i64 mh.kind, .int .i64 mh.frm, .int .i64 mh.to, .int .i64 mh.ballot, .int .i64 mh.slot, .int .i64 mh.blob, .int .i64 mh.index, .int .i64 mh.epoch, .int .i64 mh.id, .bool mh.ok, .int .i64 mh.cmd.id, .int .i64 mh.cmd.kind, .string mh.cmd.key, .int .i64 mh.cmd.blob, .int .i64 mh.cmd.other, .int .i64 mh.cmd.index, .int .i64 mh.cmd.node, .int .i64 mh.cmd.size, .int .u32 mh.cmd.sum, .int .i64 mh.cmd.k, .int .i64 mh.cmd.m, .slice A cn.length d, .slice V vs.length e, .slice B bs.length f] 40
  have HW := Lib.hid hwb
  have HK := Lib.hid (h.below hBb)
  have HKw := Lib.hid h
  have HMC := Lib.hid (rmayMsg_calls (e := e) HK.out)
  rw [hok] at HMC
  simp only at HMC
  have hmax1 : cn.length * 8 ≤ 140737488351232 := h.cmax
  have hmax2 : vs.length ≤ 140737488351232 := h.vmax
  have hatM : At (w.alloc (.cells #[.int .i64 mh.kind, .int .i64 mh.frm, .int .i64 mh.to, .int .i64 mh.ballot, .int .i64 mh.slot, .int .i64 mh.blob, .int .i64 mh.index, .int .i64 mh.epoch, .int .i64 mh.id, .bool mh.ok, .int .i64 mh.cmd.id, .int .i64 mh.cmd.kind, .string mh.cmd.key, .int .i64 mh.cmd.blob, .int .i64 mh.cmd.other, .int .i64 mh.cmd.index, .int .i64 mh.cmd.node, .int .i64 mh.cmd.size, .int .u32 mh.cmd.sum, .int .i64 mh.cmd.k, .int .i64 mh.cmd.m, .slice A cn.length d, .slice V vs.length e, .slice B bs.length f] 40)) (some ⟨w.heap.size, 0, none⟩) [.int .i64 mh.kind, .int .i64 mh.frm, .int .i64 mh.to, .int .i64 mh.ballot, .int .i64 mh.slot, .int .i64 mh.blob, .int .i64 mh.index, .int .i64 mh.epoch, .int .i64 mh.id, .bool mh.ok, .int .i64 mh.cmd.id, .int .i64 mh.cmd.kind, .string mh.cmd.key, .int .i64 mh.cmd.blob, .int .i64 mh.cmd.other, .int .i64 mh.cmd.index, .int .i64 mh.cmd.node, .int .i64 mh.cmd.size, .int .u32 mh.cmd.sum, .int .i64 mh.cmd.k, .int .i64 mh.cmd.m, .slice A cn.length d, .slice V vs.length e, .slice B bs.length f] := at_alloc w #[.int .i64 mh.kind, .int .i64 mh.frm, .int .i64 mh.to, .int .i64 mh.ballot, .int .i64 mh.slot, .int .i64 mh.blob, .int .i64 mh.index, .int .i64 mh.epoch, .int .i64 mh.id, .bool mh.ok, .int .i64 mh.cmd.id, .int .i64 mh.cmd.kind, .string mh.cmd.key, .int .i64 mh.cmd.blob, .int .i64 mh.cmd.other, .int .i64 mh.cmd.index, .int .i64 mh.cmd.node, .int .i64 mh.cmd.size, .int .u32 mh.cmd.sum, .int .i64 mh.cmd.k, .int .i64 mh.cmd.m, .slice A cn.length d, .slice V vs.length e, .slice B bs.length f] 40 (0, 0)
  have HX := Lib.hid hrb
  have HMN := Lib.hid hmn
  have HML := Lib.hid hml
  clear hwb hrb h hok hmn hml
  go_enter Try.func17, Try.ntmps17
  go_wp2_with (refine wpList_load_at rfl 40 (.tmp 1) rfl rfl hatM Try.underlying40 rfl (by kernel_rfl) ?_)
  have hwb := HW.out
  rw [← hwb]
  clear hwb HW hatM
  refine HMC.out.mono ?_
  rintro e1 w2 ⟨rfl, hb2⟩
  have hB2 := hBb.trans (hb2.mono hBb.size)
  have hr2 := (hb2.block w.heap.size (by omega)).trans HX.out
  have hsz2 : w.heap.size < w2.heap.size := (Array.getElem?_eq_some_iff.1 hr2).1
  have he := mcells_of hr2
  obtain ⟨e0, e1, e2, e3, e4, e5, e6, e7, e8, e9, e10, e11, e12, e13, e14, e15, e16, e17, e18, e19, e20, e21, e22, e23⟩ := he
  have HR2 := Lib.hid hr2
  clear hb2 HMC HX HK hr2 hBb
  go_wp2_with fail
  clear e0 e1 e2 e3 e4 e5 e6 e7 e8 e9 e10 e11 e12 e13 e14 e15 e16 e17 e18 e19 e20 e21 e22 e23
  have hbl := below1' w2 (.cells #[.int .i64 mh.kind, .int .i64 mh.frm, .int .i64 mh.to, .int .i64 mh.ballot, .int .i64 mh.slot, .int .i64 mh.blob, .int .i64 mh.index, .int .i64 mh.epoch, .int .i64 mh.id] 3)
  have hat : At (w2.alloc (.cells #[.int .i64 mh.kind, .int .i64 mh.frm, .int .i64 mh.to, .int .i64 mh.ballot, .int .i64 mh.slot, .int .i64 mh.blob, .int .i64 mh.index, .int .i64 mh.epoch, .int .i64 mh.id] 3)) (some ⟨w2.heap.size, 0, none⟩) (ints (natsV mN)) := by
    rw [HMN.out]
    exact at_new w2 #[.int .i64 mh.kind, .int .i64 mh.frm, .int .i64 mh.to, .int .i64 mh.ballot, .int .i64 mh.slot, .int .i64 mh.blob, .int .i64 mh.index, .int .i64 mh.epoch, .int .i64 mh.id] 3 (0, 0)
  have hl9 : mN.length = 9 := by
    have := congrArg List.length HMN.out
    simpa using this
  have hB3 := hB2.trans (hbl.mono hB2.size)
  have HR3 := Lib.hid ((hbl.block w.heap.size hsz2).trans HR2.out)
  have HNU := Lib.hid (rnums_calls (n := 9) (c := 9) hat hl9.symm HML.out (by omega))
  have hsz3 : w.heap.size < (w2.alloc (.cells #[.int .i64 mh.kind, .int .i64 mh.frm, .int .i64 mh.to, .int .i64 mh.ballot, .int .i64 mh.slot, .int .i64 mh.blob, .int .i64 mh.index, .int .i64 mh.epoch, .int .i64 mh.id] 3)).heap.size := by simp; omega
  generalize w2.alloc (.cells #[.int .i64 mh.kind, .int .i64 mh.frm, .int .i64 mh.to, .int .i64 mh.ballot, .int .i64 mh.slot, .int .i64 mh.blob, .int .i64 mh.index, .int .i64 mh.epoch, .int .i64 mh.id] 3) = w3 at *
  clear hbl hat HR2 hB2
  refine HNU.out.mono ?_
  rintro e1 w4 ⟨A4, c4, rfl, ho4, hb4⟩
  have HR4 := Lib.hid ((hb4.block w.heap.size hsz3).trans HR3.out)
  have hB4 := hB3.trans (hb4.mono (by omega))
  have hz4 := hb4.size
  have hn4 : (numsB mN).length ≤ 81 := by
    have := numsB_len (ns := mN) (fun x hx => by have := HML.out x hx; omega)
    rw [hl9] at this
    omega
  clear HNU hb4 HR3 HMN HML hl9 hB3
  generalize numsB mN = xs4 at *
  have hokc : mh.ok = true ∨ mh.ok = false := by cases mh.ok <;> simp
  have hk9 := cell_of_row _ _ 9 _ _ (0, 0) HR4.out
  simp only [List.getElem?_toArray, List.getElem?_cons_succ, List.getElem?_cons_zero] at hk9
  rcases hokc with hokv | hokv
  · rw [hokv] at hk9 HX0
    have hbv : okB true = 1#8 := rfl
    rw [hbv] at HX0
    have hbl := below1' w4 (.cells #[.int .u8 1] 5)
    have hatB : At (w4.alloc (.cells #[.int .u8 1] 5)) (some ⟨w4.heap.size, 0, none⟩) (bys [1#8]) := at_new w4 #[.int .u8 1] 5 (0, 0)
    have ho5 := own_below ho4 hbl
    have hsz5 : w3.heap.size ≤ (w4.alloc (.cells #[.int .u8 1] 5)).heap.size := by simp; omega
    have HR5 := Lib.hid ((hbl.block w.heap.size (by omega)).trans HR4.out)
    have hB5 := hB4.trans (hbl.mono (by omega))
    clear ho4
    go_wp2_with (first
      | (refine app_bytes rfl (.tmp 36) (.tmp 37) rfl w3.heap.size (v := .slice A4 xs4.length c4) rfl ho5 rfl (news := [1#8]) rfl hatB (by intro h; cases h) (by omega) hsz5 ?_; intro A6 c6 w6 ho6 hb6 hg6 hcap6
         have hrx := (hb6.block w.heap.size (by omega)).trans HR5.out
         have hatC : At w6 (some ⟨w.heap.size, 10, none⟩) [.int .i64 mh.cmd.id, .int .i64 mh.cmd.kind, .string mh.cmd.key, .int .i64 mh.cmd.blob, .int .i64 mh.cmd.other, .int .i64 mh.cmd.index, .int .i64 mh.cmd.node, .int .i64 mh.cmd.size, .int .u32 mh.cmd.sum, .int .i64 mh.cmd.k, .int .i64 mh.cmd.m, .slice A cn.length d] := at_part (n := 12) hrx rfl)
      | (refine wpList_load_at rfl 27 (.tmp 43) rfl rfl hatC Try.underlying27 rfl (by kernel_rfl) ?_))
    clear hatC hatB hk9
    have HR6 := Lib.hid hrx
    have hB6 := hB5.trans (hb6.mono (by omega))
    have hz6 := Nat.le_trans hsz5 hb6.size
    clear hrx hb6 hg6 hcap6 HR5 hB5 HR4 hB4 hbl ho5 hsz5
    rw [show xs4.length + 1 = (xs4 ++ [1#8]).length by simp] at ho6 ⊢
    have hn6 : (xs4 ++ [1#8]).length ≤ 82 := by simp; omega
    generalize xs4 ++ [1#8] = xs6 at *
    have HCW := Lib.hid (rcmd_calls (l := cn) (n := cn.length) (d := d) mh.cmd (HKw.out.below hB6).cn rfl (by have := (mayC_ok.1 HOK.out.cmd).len; simp only at this; omega) HKw.out.sum)
    rw [show encC mh.cmd cn = cmdB mh.cmd cn by unfold encC; rw [if_pos HOK.out.cmd], show encCE mh.cmd cn = 0 by unfold encCE; rw [if_pos HOK.out.cmd]] at HCW
    have hzc := cmdB_len (mayC_ok.1 HOK.out.cmd) HKw.out.sum
    have hzp := cmdB_pos mh.cmd cn
    simp only at hzc
    generalize cmdB mh.cmd cn = zc at *
    refine HCW.out.mono ?_
    rintro e1 w7 ⟨A7, c7, rfl, hat7, hb7⟩
    clear HCW
    go_wp2_with fail
    have hD : Below w7.heap.size w7 w7.drew := (belowN 1 : Below w7.heap.size w7 (w7.drewN 1))
    have hb7D : Below w6.heap.size w6 w7.drew := hb7.trans (hD.mono hb7.size)
    have hoD := own_below ho6 hb7D
    have hatD := hat7.below hD
    have hnilD := ne_nil_at (c := c7) hat7 hzp
    have HRD := Lib.hid ((hb7D.block w.heap.size (by omega)).trans HR6.out)
    have hBD := hB6.trans (hb7D.mono hB6.size)
    have hzD := Nat.le_trans hz6 hb7D.size
    have e22D := cell_of_row _ _ 22 _ _ (0, 0) HRD.out
    simp only [List.getElem?_toArray, List.getElem?_cons_succ, List.getElem?_cons_zero] at e22D
    refine wp_region_held_drew (S := fun w' => w'.cell? ⟨w.heap.size, 22, none⟩ = some (.slice V vs.length e)) (by kernel_rfl) e22D (fun hHeld => ?_)
    generalize w7.drew = WD at *
    clear hD hb7D hat7 hb7 ho6 HR6 hB6 hz6
    refine wpAnyH_take (i := 0) (v := ?_) rfl (by kernel_rfl) (by kernel_rfl) (by kernel_rfl) (fun _ _ _ h => h) (Or.inl ⟨by rfl, ?_⟩) (by assumption) ?_; rotate_left; (intro w hSw; (try dsimp only at hSw); go_simp; (first | done | (with_reducible rfl))); (try simp only [List.getElem_toArray, List.getElem_cons_succ, List.getElem_cons_zero, Act.put, List.setIfInBounds_toArray, List.set_cons_zero, List.set_cons_succ])
    refine wpAnyH_take (i := 1) (v := ?_) rfl (by kernel_rfl) (by kernel_rfl) (by kernel_rfl) (fun _ _ _ h => h) (Or.inl ⟨by rfl, ?_⟩) (by assumption) ?_; rotate_left; (intro w hSw; (try dsimp only at hSw); go_simp; (first | done | (with_reducible rfl))); (try simp only [List.getElem_toArray, List.getElem_cons_succ, List.getElem_cons_zero, Act.put, List.setIfInBounds_toArray, List.set_cons_zero, List.set_cons_succ])
    refine wpAnyH_take (i := 3) (v := ?_) rfl (by kernel_rfl) (by kernel_rfl) (by kernel_rfl) (fun _ _ _ h => h) (Or.inl ⟨by rfl, ?_⟩) (by assumption) ?_; rotate_left; (intro w hSw; (try dsimp only at hSw); go_simp; (first | done | (with_reducible rfl))); (try simp only [List.getElem_toArray, List.getElem_cons_succ, List.getElem_cons_zero, Act.put, List.setIfInBounds_toArray, List.set_cons_zero, List.set_cons_succ])
    refine wpAnyH_take (i := 4) (v := ?_) rfl (by kernel_rfl) (by kernel_rfl) (by kernel_rfl) (fun _ _ _ h => h) (Or.inl ⟨by rfl, ?_⟩) (by assumption) ?_; rotate_left; (intro w hSw; (try dsimp only at hSw); go_simp; (first | done | (with_reducible rfl))); (try simp only [List.getElem_toArray, List.getElem_cons_succ, List.getElem_cons_zero, Act.put, List.setIfInBounds_toArray, List.set_cons_zero, List.set_cons_succ])
    refine wpAnyH_take (i := 5) (v := ?_) rfl (by kernel_rfl) (by kernel_rfl) (by kernel_rfl) (fun _ _ _ h => h) (Or.inl ⟨by rfl, ?_⟩) (by assumption) ?_; rotate_left; (intro w hSw; (try dsimp only at hSw); go_simp; (first | done | (with_reducible rfl))); (try simp only [List.getElem_toArray, List.getElem_cons_succ, List.getElem_cons_zero, Act.put, List.setIfInBounds_toArray, List.set_cons_zero, List.set_cons_succ])
    refine wpAnyH_ready (rs := [2]) (by kernel_rfl) (by simp) ?_; refine AllReadyH.cons rfl (fun KK hKK => ?_) AllReadyH.nil
    refine step_app_bytes rfl (.tmp 48) (.tmp 49) rfl w3.heap.size (v := .slice A6 xs6.length c6) rfl hoD rfl (news := zc) rfl hatD hnilD (by omega) hzD ?_
    intro A8 c8 w8 ho8 hb8 hg8 hc8
    have e228 := (hb8.cell (p := ⟨w.heap.size, 22, none⟩) (by show w.heap.size < w3.heap.size; omega)).trans e22D
    have HR8 := Lib.hid ((hb8.block w.heap.size (by omega)).trans HRD.out)
    have hB8 := hBD.trans (hb8.mono (by omega))
    have hz8 := Nat.le_trans hzD hb8.size
    refine hKK.out _ _ e228 (fun hHeld => ?_)
    clear hKK KK
    (try simp only [List.getElem_toArray, List.getElem_cons_succ, List.getElem_cons_zero, Act.put, List.setIfInBounds_toArray, List.set_cons_zero, List.set_cons_succ])
    clear hb8 hg8 hc8 e22D hBD hzD hoD hatD hnilD HRD
    have hvl : vs.length ≤ 1000 := HOK.out.vlen
    have HNM := Lib.hid (num_calls (w := w8) vs.length (by omega))
    refine wpAnyH_ready (rs := [6]) (by kernel_rfl) (by simp) ?_; refine AllReadyH.cons rfl (fun KK hKK => ?_) AllReadyH.nil
    go_simp
    refine HNM.out.mono ?_
    rintro e1 w9 ⟨A9, c9, rfl, ho9, hb9⟩
    go_wp2_with fail
    have ho89 := own_below ho8 hb9
    have e229 := (hb9.cell (p := ⟨w.heap.size, 22, none⟩) (block_lt e228)).trans e228
    have HR9 := Lib.hid ((hb9.block w.heap.size (by omega)).trans HR8.out)
    have hB9 := hB8.trans (hb9.mono hB8.size)
    have hz9 := Nat.le_trans hz8 hb9.size
    have hat9 := own_at ho9
    have hnil9 := own_nil ho9
    refine hKK.out _ _ e229 (fun hHeld => ?_)
    clear hKK KK
    (try simp only [List.getElem_toArray, List.getElem_cons_succ, List.getElem_cons_zero, Act.put, List.setIfInBounds_toArray, List.set_cons_zero, List.set_cons_succ])
    clear hb9 e228 hB8 hz8 HNM ho8 ho9 HR8
    have hnl := numB_len (n := vs.length) (by omega)
    generalize numB vs.length = zn at *
    refine wpAnyH_ready (rs := [7]) (by kernel_rfl) (by simp) ?_; refine AllReadyH.cons rfl (fun KK hKK => ?_) AllReadyH.nil
    refine step_app_bytes rfl (.tmp 50) (.tmp 54) rfl w3.heap.size (v := .slice A8 (xs6.length + zc.length) c8) rfl ho89 rfl (news := zn) rfl hat9 hnil9 (by omega) hz9 ?_
    intro A10 c10 w10 ho10 hb10 hg10 hc10
    have e2210 := (hb10.cell (p := ⟨w.heap.size, 22, none⟩) (by show w.heap.size < w3.heap.size; omega)).trans e229
    have HR10 := Lib.hid ((hb10.block w.heap.size (by omega)).trans HR9.out)
    have hB10 := hB9.trans (hb10.mono (by omega))
    have hz10 := Nat.le_trans hz9 hb10.size
    refine hKK.out _ _ e2210 (fun hHeld => ?_)
    clear hKK KK
    (try simp only [List.getElem_toArray, List.getElem_cons_succ, List.getElem_cons_zero, Act.put, List.setIfInBounds_toArray, List.set_cons_zero, List.set_cons_succ])
    clear hb10 hg10 hc10 e229 hB9 hz9 ho89 hat9 hnil9 HR9
    refine wpAnyH_take (i := 8) (v := ?_) rfl (by kernel_rfl) (by kernel_rfl) (by kernel_rfl) (fun _ _ _ h => h) (Or.inl ⟨by rfl, ?_⟩) (by assumption) ?_; rotate_left; (intro w hSw; (try dsimp only at hSw); go_simp; (first | done | (with_reducible rfl))); (try simp only [List.getElem_toArray, List.getElem_cons_succ, List.getElem_cons_zero, Act.put, List.setIfInBounds_toArray, List.set_cons_zero, List.set_cons_succ])
    refine wpAnyH_done (by kernel_rfl) ?_ _
    have hlx : xs6.length + zc.length + zn.length = (xs6 ++ zc ++ zn).length := by simp only [List.length_append]
    have HX1 : Hid (res = (xs6 ++ zc ++ zn) ++ (votesB vs ++ (numB bs.length ++ bs))) := by show res = _; rw [HX0.out]; simp only [List.append_assoc]
    have hn10 : (xs6 ++ zc ++ zn).length ≤ 2700 := by rw [← hlx]; omega
    rw [hlx] at ho10 ⊢
    clear hlx HX0 hHeld hzc hzp hnl hn6
    generalize xs6 ++ zc ++ zn = xs10 at *
    clear hHeld
    go_wp2_with fail
    clear e2210
    obtain ⟨us, hvA, hvV⟩ := HKw.out.vts
    simp only at hvV
    have HLU := Lib.hid (Vts.length _ _ hvV)
    go_loopw [59, 4] (fun s59 s4 wr => ∃ (j : Nat) (Aj : Option Addr) (cj : Nat), j ≤ vs.length ∧ s59 = .int .i64 ((j : Nat) : Int) ∧ s4 = .slice Aj (xs10 ++ votesB (vs.take j)).length cj ∧ wr.ownsRow w3.heap.size 5 1 (.slice Aj (xs10 ++ votesB (vs.take j)).length cj) (xs10 ++ votesB (vs.take j)).length (bys (xs10 ++ votesB (vs.take j))) ∧ Below w.heap.size w wr ∧ Hid (wr.heap[w.heap.size]? = w10.heap[w.heap.size]?) ∧ w3.heap.size ≤ wr.heap.size) (fun s59 _ _ => vs.length - (intOf s59).toNat)
    case atStart => exact ⟨0, A10, c10, by omega, rfl, by rw [List.take_zero, votesB, List.append_nil], by rw [List.take_zero, votesB, List.append_nil]; exact ho10, hB10, rfl, hz10⟩
    case round =>
      obtain ⟨j, Aj, cj, hj, rfl, rfl, ho, hB, HEQ, hzr⟩ := hrel
      rename World => wr
      clear ho10 hB10 hz10
      by_cases hjv : j < vs.length
      · obtain ⟨v, hv⟩ : ∃ v, vs[j]? = some v := ⟨_, List.getElem?_eq_getElem hjv⟩
        obtain ⟨b, off, rfl⟩ := some_of_at hvA (by rw [HLU.out]; omega)
        obtain ⟨cs, ⟨nA, nd, rfl, hn1, hn2, hn3, hn4⟩, hat⟩ := Vts.at' _ _ j v hvV hvA hv
        have hat1 : At wr (some ⟨b, off + j * 14, none⟩) _ := hat.below hB
        have hmv := HOK.out.votes v (List.mem_of_getElem? hv)
        have HTK := Lib.hid (show vs.take (j + 1) = vs.take j ++ [v] by rw [List.take_add_one, hv]; rfl)
        obtain ⟨hp1, hp2, hp3⟩ := mayV_parts hmv
        have hmc := (mayV_ok.1 hmv).2.2
        have hlj : (xs10 ++ votesB (vs.take j)).length ≤ 2800000 := by
          have := votesB_len (vs.take j) (fun u hu => ⟨HOK.out.votes u (List.mem_of_mem_take hu), Vts.sum _ _ hvV u (List.mem_of_mem_take hu)⟩)
          rw [List.length_take] at this
          rw [List.length_append]
          omega
        obtain ⟨vs0, vb0, vc0, vl0⟩ := v
        simp only at hat1 hn1 hn2 hn3 hn4 hp1 hp2 hp3 hmc
        have hvm := Lib.hid (show natsV [vs0.toNat, vb0.toNat] = [vs0, vb0] by unfold natsV; simp only [List.map_cons, List.map_nil]; rw [Int.toNat_of_nonneg hp1.1, Int.toNat_of_nonneg hp2.1])
        have hvb : ∀ x, x ∈ [vs0.toNat, vb0.toNat] → x ≤ 1152921504606846976 := by
          intro x hx
          simp only [List.mem_cons, List.not_mem_nil, or_false] at hx
          rcases hx with rfl | rfl <;> omega
        have HVB := Lib.hid hvb
        have hji : (j : Int) < (vs.length : Int) := by omega
        have hj0 : (0 : Int) ≤ (j : Int) := by omega
        have hmi : (vs.length : Int) ≤ 1000 := by omega
        have HXJ : Hid (xs10 ++ votesB (vs.take (j + 1)) = (xs10 ++ votesB (vs.take j)) ++ numsB [vs0.toNat, vb0.toNat] ++ cmdB vc0 vl0) := by
          show _ = _
          rw [HTK.out, votesB_append]
          simp only [votesB, voteB, List.append_nil, List.append_assoc]
        generalize xs10 ++ votesB (vs.take j) = xj at *
        have hbx := below1' wr (.cells #[.int .i64 vs0, .int .i64 vb0, .int .i64 vc0.id, .int .i64 vc0.kind, .string vc0.key, .int .i64 vc0.blob, .int .i64 vc0.other, .int .i64 vc0.index, .int .i64 vc0.node, .int .i64 vc0.size, .int .u32 vc0.sum, .int .i64 vc0.k, .int .i64 vc0.m, .slice nA vl0.length nd] 74)
        have HOx := Lib.hid (own_below ho hbx)
        have hBx := hB.trans (hbx.mono hB.size)
        have HEQx := Lib.hid ((hbx.block w.heap.size (by omega)).trans HEQ.out)
        have HCW2 := Lib.hid (rcmd_own (l := vl0) (n := vl0.length) (d := nd) vc0 (hn1.below hBx) rfl (by have := hp3.len; omega) hmc hn4)
        have HLT := Lib.hid (show ∀ g, (Value.slice Aj xj.length cj).ownBlock = some g → g < wr.heap.size from fun g hg => (ho.lt g hg).2)
        have HZL := Lib.hid (cmdB_len hp3 hn4)
        have HZP := Lib.hid (cmdB_pos vc0 vl0)
        have hgx : (wr.alloc (.cells #[.int .i64 vs0, .int .i64 vb0, .int .i64 vc0.id, .int .i64 vc0.kind, .string vc0.key, .int .i64 vc0.blob, .int .i64 vc0.other, .int .i64 vc0.index, .int .i64 vc0.node, .int .i64 vc0.size, .int .u32 vc0.sum, .int .i64 vc0.k, .int .i64 vc0.m, .slice nA vl0.length nd] 74)).heap[wr.heap.size]? = some (.cells #[.int .i64 vs0, .int .i64 vb0, .int .i64 vc0.id, .int .i64 vc0.kind, .string vc0.key, .int .i64 vc0.blob, .int .i64 vc0.other, .int .i64 vc0.index, .int .i64 vc0.node, .int .i64 vc0.size, .int .u32 vc0.sum, .int .i64 vc0.k, .int .i64 vc0.m, .slice nA vl0.length nd] 74 (0, 0)) := heap_alloc_new wr _
        have HGX := Lib.hid hgx
        have hzx : (wr.alloc (.cells #[.int .i64 vs0, .int .i64 vb0, .int .i64 vc0.id, .int .i64 vc0.kind, .string vc0.key, .int .i64 vc0.blob, .int .i64 vc0.other, .int .i64 vc0.index, .int .i64 vc0.node, .int .i64 vc0.size, .int .u32 vc0.sum, .int .i64 vc0.k, .int .i64 vc0.m, .slice nA vl0.length nd] 74)).heap.size = wr.heap.size + 1 := by simp
        clear hv hat hmv hp3 hvb hn2 hp1 hp2 HTK hmc ho hB HEQ hbx hn1 hgx
        generalize cmdB vc0 vl0 = zc2 at *
        go_wp2_with (refine wpList_load_at rfl 74 (.tmp 61) rfl rfl hat1 Try.underlying74 rfl (by kernel_rfl) ?_)
        refine HCW2.out.mono ?_
        rintro e1 w12 ⟨A12, c12, rfl, hon12, hb12⟩
        clear HCW2 hat1
        have hg12 := (hb12.block wr.heap.size (by omega)).trans HGX.out
        have HO12 := Lib.hid (own_below HOx.out hb12)
        have HEQ12 := Lib.hid ((hb12.block w.heap.size (by omega)).trans HEQx.out)
        have hB12 := hBx.trans (hb12.mono (by omega))
        have hz12 : w3.heap.size ≤ w12.heap.size := by have := hb12.size; omega
        have he := vcells_of hg12
        obtain ⟨f0, f1, f2, f3, f4, f5, f6, f7, f8, f9, f10, f11, f12, f13⟩ := he
        clear f2 f3 f4 f5 f6 f7 f8 f9 f10 f11 f12 f13
        clear HOx HEQx HGX hBx hb12
        go_wp2_with fail
        clear f0 f1
        have hbl := below1' w12 (.cells #[.int .i64 vs0, .int .i64 vb0] 3)
        have hat13 : At (w12.alloc (.cells #[.int .i64 vs0, .int .i64 vb0] 3)) (some ⟨w12.heap.size, 0, none⟩) (ints (natsV [vs0.toNat, vb0.toNat])) := by
          rw [hvm.out]
          exact at_new w12 #[.int .i64 vs0, .int .i64 vb0] 3 (0, 0)
        refine (rnums_calls (ns := [vs0.toNat, vb0.toNat]) hat13 rfl HVB.out (by simp)).mono ?_
        rintro e1 w14 ⟨A14, c14, rfl, ho14, hb14⟩
        have hb1214 : Below w12.heap.size w12 w14 := hbl.trans (hb14.mono (by simp))
        have hoj14 := own_below HO12.out hb1214
        have hat14 := own_at ho14
        have hnil14 := own_nil ho14
        have honc := own_below hon12 hb1214
        have hnilc := own_nil hon12
        have HEQ14 := Lib.hid ((hb1214.block w.heap.size (by omega)).trans HEQ12.out)
        have hB14 := hB12.trans (hb1214.mono hB12.size)
        have hz14 := Nat.le_trans hz12 hb1214.size
        have hnl2 : (numsB [vs0.toNat, vb0.toNat]).length ≤ 18 := by
          have := numsB_len (ns := [vs0.toNat, vb0.toNat]) (fun x hx => by have := HVB.out x hx; omega)
          simpa using this
        have hzl2 := HZL.out
        generalize numsB [vs0.toNat, vb0.toNat] = z2 at *
        clear hbl hat13 hb14 hb1214 ho14 HO12 HEQ12 hB12 hz12 hon12 hvm HVB
        go_wp2_with (first
          | (refine app_bytes rfl (.tmp 69) (.tmp 75) rfl w3.heap.size (v := .slice Aj xj.length cj) rfl hoj14 rfl (news := z2) rfl hat14 hnil14 (by omega) hz14 ?_; intro A16 c16 w16 ho16 hb16 hg16 hcap16
             have hatc16 : At w16 A12 (bys zc2) := own_at (honc.kept hg16.1 (by
               cases hu : (Value.slice A12 zc2.length c12).ownBlock with
               | none => exact .inl rfl
               | some b =>
                 refine .inr fun hh => ?_
                 have h1 := (honc.lt b hu).1
                 have h2 := HLT.out b hh.symm
                 omega))
             have hz16 := Nat.le_trans hz14 hb16.size)
          | (refine app_bytes rfl (.tmp 76) (.tmp 77) rfl w3.heap.size (v := .slice A16 (xj.length + z2.length) c16) rfl ho16 rfl (news := zc2) rfl hatc16 hnilc (by omega) hz16 ?_; intro A17 c17 w17 ho17 hb17 hg17 hcap17))
        have hlz : xj.length + z2.length + zc2.length = (xj ++ z2 ++ zc2).length := by simp only [List.length_append]
        rw [hlz] at ho17
        rw [← HXJ.out] at ho17 hlz
        refine ⟨⟨j + 1, A17, c17, by omega, by go_num, by rw [hlz], ho17, (hB14.trans (hb16.mono (by omega))).trans (hb17.mono (by omega)), Lib.hid (((hb17.block w.heap.size (by omega)).trans (hb16.block w.heap.size (by omega))).trans HEQ14.out), Nat.le_trans hz16 hb17.size⟩, by simp [intOf]; omega⟩
      · obtain rfl : vs.length = j := by omega
        rw [List.take_length] at ho ⊢
        have hnj : (xs10 ++ votesB vs).length ≤ 2800000 := by
          have := votesB_len vs (fun u hu => ⟨HOK.out.votes u hu, Vts.sum _ _ hvV u hu⟩)
          rw [List.length_append]
          omega
        have HX2 : Hid (res = (xs10 ++ votesB vs) ++ (numB bs.length ++ bs)) := by show res = _; rw [HX1.out]; simp only [List.append_assoc]
        clear HX1 hn10
        generalize xs10 ++ votesB vs = xj at *
        have HRj := Lib.hid (HEQ.out.trans HR10.out)
        clear HEQ HR10
        go_wp2_with fail
        have hD : Below wr.heap.size wr wr.drew := (belowN 1 : Below wr.heap.size wr (wr.drewN 1))
        have hoD := own_below ho hD
        have hBD := hB.trans (hD.mono hB.size)
        have hatD := HKw.out.bs.below hBD
        have hnilB := HKw.out.bnil
        simp only at hatD
        have HRD := Lib.hid ((hD.block w.heap.size (by omega)).trans HRj.out)
        have hzD := Nat.le_trans hzr hD.size
        have e23D := cell_of_row _ _ 23 _ _ (0, 0) HRD.out
        simp only [List.getElem?_toArray, List.getElem?_cons_succ, List.getElem?_cons_zero] at e23D
        refine wp_region_held_drew (S := fun w' => w'.cell? ⟨w.heap.size, 23, none⟩ = some (.slice B bs.length f)) (by kernel_rfl) e23D (fun hHeld => ?_)
        generalize wr.drew = WD at *
        clear hD ho hB HRj
        refine wpAnyH_take (i := 0) (v := ?_) rfl (by kernel_rfl) (by kernel_rfl) (by kernel_rfl) (fun _ _ _ h => h) (Or.inl ⟨by rfl, ?_⟩) (by assumption) ?_; rotate_left; (intro w hSw; (try dsimp only at hSw); go_simp; (first | done | (with_reducible rfl))); (try simp only [List.getElem_toArray, List.getElem_cons_succ, List.getElem_cons_zero, Act.put, List.setIfInBounds_toArray, List.set_cons_zero, List.set_cons_succ])
        refine wpAnyH_take (i := 1) (v := ?_) rfl (by kernel_rfl) (by kernel_rfl) (by kernel_rfl) (fun _ _ _ h => h) (Or.inl ⟨by rfl, ?_⟩) (by assumption) ?_; rotate_left; (intro w hSw; (try dsimp only at hSw); go_simp; (first | done | (with_reducible rfl))); (try simp only [List.getElem_toArray, List.getElem_cons_succ, List.getElem_cons_zero, Act.put, List.setIfInBounds_toArray, List.set_cons_zero, List.set_cons_succ])
        refine wpAnyH_take (i := 2) (v := ?_) rfl (by kernel_rfl) (by kernel_rfl) (by kernel_rfl) (fun _ _ _ h => h) (Or.inl ⟨by rfl, ?_⟩) (by assumption) ?_; rotate_left; (intro w hSw; (try dsimp only at hSw); go_simp; (first | done | (with_reducible rfl))); (try simp only [List.getElem_toArray, List.getElem_cons_succ, List.getElem_cons_zero, Act.put, List.setIfInBounds_toArray, List.set_cons_zero, List.set_cons_succ])
        refine wpAnyH_take (i := 3) (v := ?_) rfl (by kernel_rfl) (by kernel_rfl) (by kernel_rfl) (fun _ _ _ h => h) (Or.inl ⟨by rfl, ?_⟩) (by assumption) ?_; rotate_left; (intro w hSw; (try dsimp only at hSw); go_simp; (first | done | (with_reducible rfl))); (try simp only [List.getElem_toArray, List.getElem_cons_succ, List.getElem_cons_zero, Act.put, List.setIfInBounds_toArray, List.set_cons_zero, List.set_cons_succ])
        refine wpAnyH_take (i := 6) (v := ?_) rfl (by kernel_rfl) (by kernel_rfl) (by kernel_rfl) (fun _ _ _ h => h) (Or.inl ⟨by rfl, ?_⟩) (by assumption) ?_; rotate_left; (intro w hSw; (try dsimp only at hSw); go_simp; (first | done | (with_reducible rfl))); (try simp only [List.getElem_toArray, List.getElem_cons_succ, List.getElem_cons_zero, Act.put, List.setIfInBounds_toArray, List.set_cons_zero, List.set_cons_succ])
        refine wpAnyH_take (i := 7) (v := ?_) rfl (by kernel_rfl) (by kernel_rfl) (by kernel_rfl) (fun _ _ _ h => h) (Or.inl ⟨by rfl, ?_⟩) (by assumption) ?_; rotate_left; (intro w hSw; (try dsimp only at hSw); go_simp; (first | done | (with_reducible rfl))); (try simp only [List.getElem_toArray, List.getElem_cons_succ, List.getElem_cons_zero, Act.put, List.setIfInBounds_toArray, List.set_cons_zero, List.set_cons_succ])
        have hbl2 : bs.length ≤ 2000 := HOK.out.blen
        have HNM := Lib.hid (num_calls (w := WD) bs.length (by omega))
        refine wpAnyH_ready (rs := [4]) (by kernel_rfl) (by simp) ?_; refine AllReadyH.cons rfl (fun KK hKK => ?_) AllReadyH.nil
        go_simp
        refine HNM.out.mono ?_
        rintro e1 w20 ⟨A20, c20, rfl, ho20, hb20⟩
        go_wp2_with fail
        have hoj20 := own_below hoD hb20
        have e2320 := (hb20.cell (p := ⟨w.heap.size, 23, none⟩) (block_lt e23D)).trans e23D
        have hB20 := hBD.trans (hb20.mono hBD.size)
        have hz20 := Nat.le_trans hzD hb20.size
        have hat20 := own_at ho20
        have hnil20 := own_nil ho20
        refine hKK.out _ _ e2320 (fun hHeld => ?_)
        clear hKK KK
        (try simp only [List.getElem_toArray, List.getElem_cons_succ, List.getElem_cons_zero, Act.put, List.setIfInBounds_toArray, List.set_cons_zero, List.set_cons_succ])
        clear hb20 e23D hBD hzD HNM hoD ho20 hatD
        have hnl := numB_len (n := bs.length) (by omega)
        generalize numB bs.length = zn2 at *
        refine wpAnyH_ready (rs := [5]) (by kernel_rfl) (by simp) ?_; refine AllReadyH.cons rfl (fun KK hKK => ?_) AllReadyH.nil
        refine step_app_bytes rfl (.tmp 80) (.tmp 84) rfl w3.heap.size (v := .slice Aj xj.length cj) rfl hoj20 rfl (news := zn2) rfl hat20 hnil20 (by omega) hz20 ?_
        intro A21 c21 w21 ho21 hb21 hg21 hc21
        have e2321 := (hb21.cell (p := ⟨w.heap.size, 23, none⟩) (by show w.heap.size < w3.heap.size; omega)).trans e2320
        have hB21 := hB20.trans (hb21.mono (by omega))
        have hz21 := Nat.le_trans hz20 hb21.size
        refine hKK.out _ _ e2321 (fun hHeld => ?_)
        clear hKK KK
        (try simp only [List.getElem_toArray, List.getElem_cons_succ, List.getElem_cons_zero, Act.put, List.setIfInBounds_toArray, List.set_cons_zero, List.set_cons_succ])
        clear hb21 hg21 hc21 e2320 hB20 hz20 hoj20 hat20 hnil20
        have hatB := HKw.out.bs.below hB21
        simp only at hatB
        refine wpAnyH_ready (rs := [8]) (by kernel_rfl) (by simp) ?_; refine AllReadyH.cons rfl (fun KK hKK => ?_) AllReadyH.nil
        refine step_app_bytes rfl (.tmp 85) (.tmp 87) rfl w3.heap.size (v := .slice A21 (xj.length + zn2.length) c21) rfl ho21 rfl (news := bs) rfl hatB hnilB (by omega) hz21 ?_
        intro A22 c22 w22 ho22 hb22 hg22 hc22
        have e2322 := (hb22.cell (p := ⟨w.heap.size, 23, none⟩) (by show w.heap.size < w3.heap.size; omega)).trans e2321
        have hB22 := hB21.trans (hb22.mono (by omega))
        refine hKK.out _ _ e2322 (fun hHeld => ?_)
        clear hKK KK
        (try simp only [List.getElem_toArray, List.getElem_cons_succ, List.getElem_cons_zero, Act.put, List.setIfInBounds_toArray, List.set_cons_zero, List.set_cons_succ])
        refine wpAnyH_take (i := 9) (v := ?_) rfl (by kernel_rfl) (by kernel_rfl) (by kernel_rfl) (fun _ _ _ h => h) (Or.inl ⟨by rfl, ?_⟩) (by assumption) ?_; rotate_left; (intro w hSw; (try dsimp only at hSw); go_simp; (first | done | (with_reducible rfl))); (try simp only [List.getElem_toArray, List.getElem_cons_succ, List.getElem_cons_zero, Act.put, List.setIfInBounds_toArray, List.set_cons_zero, List.set_cons_succ])
        refine wpAnyH_take (i := 10) (v := ?_) rfl (by kernel_rfl) (by kernel_rfl) (by kernel_rfl) (fun _ _ _ h => h) (Or.inl ⟨by rfl, ?_⟩) (by assumption) ?_; rotate_left; (intro w hSw; (try dsimp only at hSw); go_simp; (first | done | (with_reducible rfl))); (try simp only [List.getElem_toArray, List.getElem_cons_succ, List.getElem_cons_zero, Act.put, List.setIfInBounds_toArray, List.set_cons_zero, List.set_cons_succ])
        refine wpAnyH_done (by kernel_rfl) ?_ _
        go_wp2_with fail
        go_ret2
        have hlz : xj.length + zn2.length + bs.length = (xj ++ zn2 ++ bs).length := by simp only [List.length_append]
        rw [hlz] at ho22
        have HX3 : res = xj ++ zn2 ++ bs := by rw [HX2.out, List.append_assoc]
        rw [HX3]
        exact ⟨A22, c22, by rw [hlz]; rfl, own_at ho22, hB22⟩
  · rw [hokv] at hk9 HX0
    have hbv : okB false = 0#8 := rfl
    rw [hbv] at HX0
    have hbl := below1' w4 (.cells #[.int .u8 0] 5)
    have hatB : At (w4.alloc (.cells #[.int .u8 0] 5)) (some ⟨w4.heap.size, 0, none⟩) (bys [0#8]) := at_new w4 #[.int .u8 0] 5 (0, 0)
    have ho5 := own_below ho4 hbl
    have hsz5 : w3.heap.size ≤ (w4.alloc (.cells #[.int .u8 0] 5)).heap.size := by simp; omega
    have HR5 := Lib.hid ((hbl.block w.heap.size (by omega)).trans HR4.out)
    have hB5 := hB4.trans (hbl.mono (by omega))
    clear ho4
    go_wp2_with (first
      | (refine app_bytes rfl (.tmp 39) (.tmp 40) rfl w3.heap.size (v := .slice A4 xs4.length c4) rfl ho5 rfl (news := [0#8]) rfl hatB (by intro h; cases h) (by omega) hsz5 ?_; intro A6 c6 w6 ho6 hb6 hg6 hcap6
         have hrx := (hb6.block w.heap.size (by omega)).trans HR5.out
         have hatC : At w6 (some ⟨w.heap.size, 10, none⟩) [.int .i64 mh.cmd.id, .int .i64 mh.cmd.kind, .string mh.cmd.key, .int .i64 mh.cmd.blob, .int .i64 mh.cmd.other, .int .i64 mh.cmd.index, .int .i64 mh.cmd.node, .int .i64 mh.cmd.size, .int .u32 mh.cmd.sum, .int .i64 mh.cmd.k, .int .i64 mh.cmd.m, .slice A cn.length d] := at_part (n := 12) hrx rfl)
      | (refine wpList_load_at rfl 27 (.tmp 43) rfl rfl hatC Try.underlying27 rfl (by kernel_rfl) ?_))
    clear hatC hatB hk9
    have HR6 := Lib.hid hrx
    have hB6 := hB5.trans (hb6.mono (by omega))
    have hz6 := Nat.le_trans hsz5 hb6.size
    clear hrx hb6 hg6 hcap6 HR5 hB5 HR4 hB4 hbl ho5 hsz5
    rw [show xs4.length + 1 = (xs4 ++ [0#8]).length by simp] at ho6 ⊢
    have hn6 : (xs4 ++ [0#8]).length ≤ 82 := by simp; omega
    generalize xs4 ++ [0#8] = xs6 at *
    have HCW := Lib.hid (rcmd_calls (l := cn) (n := cn.length) (d := d) mh.cmd (HKw.out.below hB6).cn rfl (by have := (mayC_ok.1 HOK.out.cmd).len; simp only at this; omega) HKw.out.sum)
    rw [show encC mh.cmd cn = cmdB mh.cmd cn by unfold encC; rw [if_pos HOK.out.cmd], show encCE mh.cmd cn = 0 by unfold encCE; rw [if_pos HOK.out.cmd]] at HCW
    have hzc := cmdB_len (mayC_ok.1 HOK.out.cmd) HKw.out.sum
    have hzp := cmdB_pos mh.cmd cn
    simp only at hzc
    generalize cmdB mh.cmd cn = zc at *
    refine HCW.out.mono ?_
    rintro e1 w7 ⟨A7, c7, rfl, hat7, hb7⟩
    clear HCW
    go_wp2_with fail
    have hD : Below w7.heap.size w7 w7.drew := (belowN 1 : Below w7.heap.size w7 (w7.drewN 1))
    have hb7D : Below w6.heap.size w6 w7.drew := hb7.trans (hD.mono hb7.size)
    have hoD := own_below ho6 hb7D
    have hatD := hat7.below hD
    have hnilD := ne_nil_at (c := c7) hat7 hzp
    have HRD := Lib.hid ((hb7D.block w.heap.size (by omega)).trans HR6.out)
    have hBD := hB6.trans (hb7D.mono hB6.size)
    have hzD := Nat.le_trans hz6 hb7D.size
    have e22D := cell_of_row _ _ 22 _ _ (0, 0) HRD.out
    simp only [List.getElem?_toArray, List.getElem?_cons_succ, List.getElem?_cons_zero] at e22D
    refine wp_region_held_drew (S := fun w' => w'.cell? ⟨w.heap.size, 22, none⟩ = some (.slice V vs.length e)) (by kernel_rfl) e22D (fun hHeld => ?_)
    generalize w7.drew = WD at *
    clear hD hb7D hat7 hb7 ho6 HR6 hB6 hz6
    refine wpAnyH_take (i := 0) (v := ?_) rfl (by kernel_rfl) (by kernel_rfl) (by kernel_rfl) (fun _ _ _ h => h) (Or.inl ⟨by rfl, ?_⟩) (by assumption) ?_; rotate_left; (intro w hSw; (try dsimp only at hSw); go_simp; (first | done | (with_reducible rfl))); (try simp only [List.getElem_toArray, List.getElem_cons_succ, List.getElem_cons_zero, Act.put, List.setIfInBounds_toArray, List.set_cons_zero, List.set_cons_succ])
    refine wpAnyH_take (i := 1) (v := ?_) rfl (by kernel_rfl) (by kernel_rfl) (by kernel_rfl) (fun _ _ _ h => h) (Or.inl ⟨by rfl, ?_⟩) (by assumption) ?_; rotate_left; (intro w hSw; (try dsimp only at hSw); go_simp; (first | done | (with_reducible rfl))); (try simp only [List.getElem_toArray, List.getElem_cons_succ, List.getElem_cons_zero, Act.put, List.setIfInBounds_toArray, List.set_cons_zero, List.set_cons_succ])
    refine wpAnyH_take (i := 3) (v := ?_) rfl (by kernel_rfl) (by kernel_rfl) (by kernel_rfl) (fun _ _ _ h => h) (Or.inl ⟨by rfl, ?_⟩) (by assumption) ?_; rotate_left; (intro w hSw; (try dsimp only at hSw); go_simp; (first | done | (with_reducible rfl))); (try simp only [List.getElem_toArray, List.getElem_cons_succ, List.getElem_cons_zero, Act.put, List.setIfInBounds_toArray, List.set_cons_zero, List.set_cons_succ])
    refine wpAnyH_take (i := 4) (v := ?_) rfl (by kernel_rfl) (by kernel_rfl) (by kernel_rfl) (fun _ _ _ h => h) (Or.inl ⟨by rfl, ?_⟩) (by assumption) ?_; rotate_left; (intro w hSw; (try dsimp only at hSw); go_simp; (first | done | (with_reducible rfl))); (try simp only [List.getElem_toArray, List.getElem_cons_succ, List.getElem_cons_zero, Act.put, List.setIfInBounds_toArray, List.set_cons_zero, List.set_cons_succ])
    refine wpAnyH_take (i := 5) (v := ?_) rfl (by kernel_rfl) (by kernel_rfl) (by kernel_rfl) (fun _ _ _ h => h) (Or.inl ⟨by rfl, ?_⟩) (by assumption) ?_; rotate_left; (intro w hSw; (try dsimp only at hSw); go_simp; (first | done | (with_reducible rfl))); (try simp only [List.getElem_toArray, List.getElem_cons_succ, List.getElem_cons_zero, Act.put, List.setIfInBounds_toArray, List.set_cons_zero, List.set_cons_succ])
    refine wpAnyH_ready (rs := [2]) (by kernel_rfl) (by simp) ?_; refine AllReadyH.cons rfl (fun KK hKK => ?_) AllReadyH.nil
    refine step_app_bytes rfl (.tmp 48) (.tmp 49) rfl w3.heap.size (v := .slice A6 xs6.length c6) rfl hoD rfl (news := zc) rfl hatD hnilD (by omega) hzD ?_
    intro A8 c8 w8 ho8 hb8 hg8 hc8
    have e228 := (hb8.cell (p := ⟨w.heap.size, 22, none⟩) (by show w.heap.size < w3.heap.size; omega)).trans e22D
    have HR8 := Lib.hid ((hb8.block w.heap.size (by omega)).trans HRD.out)
    have hB8 := hBD.trans (hb8.mono (by omega))
    have hz8 := Nat.le_trans hzD hb8.size
    refine hKK.out _ _ e228 (fun hHeld => ?_)
    clear hKK KK
    (try simp only [List.getElem_toArray, List.getElem_cons_succ, List.getElem_cons_zero, Act.put, List.setIfInBounds_toArray, List.set_cons_zero, List.set_cons_succ])
    clear hb8 hg8 hc8 e22D hBD hzD hoD hatD hnilD HRD
    have hvl : vs.length ≤ 1000 := HOK.out.vlen
    have HNM := Lib.hid (num_calls (w := w8) vs.length (by omega))
    refine wpAnyH_ready (rs := [6]) (by kernel_rfl) (by simp) ?_; refine AllReadyH.cons rfl (fun KK hKK => ?_) AllReadyH.nil
    go_simp
    refine HNM.out.mono ?_
    rintro e1 w9 ⟨A9, c9, rfl, ho9, hb9⟩
    go_wp2_with fail
    have ho89 := own_below ho8 hb9
    have e229 := (hb9.cell (p := ⟨w.heap.size, 22, none⟩) (block_lt e228)).trans e228
    have HR9 := Lib.hid ((hb9.block w.heap.size (by omega)).trans HR8.out)
    have hB9 := hB8.trans (hb9.mono hB8.size)
    have hz9 := Nat.le_trans hz8 hb9.size
    have hat9 := own_at ho9
    have hnil9 := own_nil ho9
    refine hKK.out _ _ e229 (fun hHeld => ?_)
    clear hKK KK
    (try simp only [List.getElem_toArray, List.getElem_cons_succ, List.getElem_cons_zero, Act.put, List.setIfInBounds_toArray, List.set_cons_zero, List.set_cons_succ])
    clear hb9 e228 hB8 hz8 HNM ho8 ho9 HR8
    have hnl := numB_len (n := vs.length) (by omega)
    generalize numB vs.length = zn at *
    refine wpAnyH_ready (rs := [7]) (by kernel_rfl) (by simp) ?_; refine AllReadyH.cons rfl (fun KK hKK => ?_) AllReadyH.nil
    refine step_app_bytes rfl (.tmp 50) (.tmp 54) rfl w3.heap.size (v := .slice A8 (xs6.length + zc.length) c8) rfl ho89 rfl (news := zn) rfl hat9 hnil9 (by omega) hz9 ?_
    intro A10 c10 w10 ho10 hb10 hg10 hc10
    have e2210 := (hb10.cell (p := ⟨w.heap.size, 22, none⟩) (by show w.heap.size < w3.heap.size; omega)).trans e229
    have HR10 := Lib.hid ((hb10.block w.heap.size (by omega)).trans HR9.out)
    have hB10 := hB9.trans (hb10.mono (by omega))
    have hz10 := Nat.le_trans hz9 hb10.size
    refine hKK.out _ _ e2210 (fun hHeld => ?_)
    clear hKK KK
    (try simp only [List.getElem_toArray, List.getElem_cons_succ, List.getElem_cons_zero, Act.put, List.setIfInBounds_toArray, List.set_cons_zero, List.set_cons_succ])
    clear hb10 hg10 hc10 e229 hB9 hz9 ho89 hat9 hnil9 HR9
    refine wpAnyH_take (i := 8) (v := ?_) rfl (by kernel_rfl) (by kernel_rfl) (by kernel_rfl) (fun _ _ _ h => h) (Or.inl ⟨by rfl, ?_⟩) (by assumption) ?_; rotate_left; (intro w hSw; (try dsimp only at hSw); go_simp; (first | done | (with_reducible rfl))); (try simp only [List.getElem_toArray, List.getElem_cons_succ, List.getElem_cons_zero, Act.put, List.setIfInBounds_toArray, List.set_cons_zero, List.set_cons_succ])
    refine wpAnyH_done (by kernel_rfl) ?_ _
    have hlx : xs6.length + zc.length + zn.length = (xs6 ++ zc ++ zn).length := by simp only [List.length_append]
    have HX1 : Hid (res = (xs6 ++ zc ++ zn) ++ (votesB vs ++ (numB bs.length ++ bs))) := by show res = _; rw [HX0.out]; simp only [List.append_assoc]
    have hn10 : (xs6 ++ zc ++ zn).length ≤ 2700 := by rw [← hlx]; omega
    rw [hlx] at ho10 ⊢
    clear hlx HX0 hHeld hzc hzp hnl hn6
    generalize xs6 ++ zc ++ zn = xs10 at *
    clear hHeld
    go_wp2_with fail
    clear e2210
    obtain ⟨us, hvA, hvV⟩ := HKw.out.vts
    simp only at hvV
    have HLU := Lib.hid (Vts.length _ _ hvV)
    go_loopw [59, 4] (fun s59 s4 wr => ∃ (j : Nat) (Aj : Option Addr) (cj : Nat), j ≤ vs.length ∧ s59 = .int .i64 ((j : Nat) : Int) ∧ s4 = .slice Aj (xs10 ++ votesB (vs.take j)).length cj ∧ wr.ownsRow w3.heap.size 5 1 (.slice Aj (xs10 ++ votesB (vs.take j)).length cj) (xs10 ++ votesB (vs.take j)).length (bys (xs10 ++ votesB (vs.take j))) ∧ Below w.heap.size w wr ∧ Hid (wr.heap[w.heap.size]? = w10.heap[w.heap.size]?) ∧ w3.heap.size ≤ wr.heap.size) (fun s59 _ _ => vs.length - (intOf s59).toNat)
    case atStart => exact ⟨0, A10, c10, by omega, rfl, by rw [List.take_zero, votesB, List.append_nil], by rw [List.take_zero, votesB, List.append_nil]; exact ho10, hB10, rfl, hz10⟩
    case round =>
      obtain ⟨j, Aj, cj, hj, rfl, rfl, ho, hB, HEQ, hzr⟩ := hrel
      rename World => wr
      clear ho10 hB10 hz10
      by_cases hjv : j < vs.length
      · obtain ⟨v, hv⟩ : ∃ v, vs[j]? = some v := ⟨_, List.getElem?_eq_getElem hjv⟩
        obtain ⟨b, off, rfl⟩ := some_of_at hvA (by rw [HLU.out]; omega)
        obtain ⟨cs, ⟨nA, nd, rfl, hn1, hn2, hn3, hn4⟩, hat⟩ := Vts.at' _ _ j v hvV hvA hv
        have hat1 : At wr (some ⟨b, off + j * 14, none⟩) _ := hat.below hB
        have hmv := HOK.out.votes v (List.mem_of_getElem? hv)
        have HTK := Lib.hid (show vs.take (j + 1) = vs.take j ++ [v] by rw [List.take_add_one, hv]; rfl)
        obtain ⟨hp1, hp2, hp3⟩ := mayV_parts hmv
        have hmc := (mayV_ok.1 hmv).2.2
        have hlj : (xs10 ++ votesB (vs.take j)).length ≤ 2800000 := by
          have := votesB_len (vs.take j) (fun u hu => ⟨HOK.out.votes u (List.mem_of_mem_take hu), Vts.sum _ _ hvV u (List.mem_of_mem_take hu)⟩)
          rw [List.length_take] at this
          rw [List.length_append]
          omega
        obtain ⟨vs0, vb0, vc0, vl0⟩ := v
        simp only at hat1 hn1 hn2 hn3 hn4 hp1 hp2 hp3 hmc
        have hvm := Lib.hid (show natsV [vs0.toNat, vb0.toNat] = [vs0, vb0] by unfold natsV; simp only [List.map_cons, List.map_nil]; rw [Int.toNat_of_nonneg hp1.1, Int.toNat_of_nonneg hp2.1])
        have hvb : ∀ x, x ∈ [vs0.toNat, vb0.toNat] → x ≤ 1152921504606846976 := by
          intro x hx
          simp only [List.mem_cons, List.not_mem_nil, or_false] at hx
          rcases hx with rfl | rfl <;> omega
        have HVB := Lib.hid hvb
        have hji : (j : Int) < (vs.length : Int) := by omega
        have hj0 : (0 : Int) ≤ (j : Int) := by omega
        have hmi : (vs.length : Int) ≤ 1000 := by omega
        have HXJ : Hid (xs10 ++ votesB (vs.take (j + 1)) = (xs10 ++ votesB (vs.take j)) ++ numsB [vs0.toNat, vb0.toNat] ++ cmdB vc0 vl0) := by
          show _ = _
          rw [HTK.out, votesB_append]
          simp only [votesB, voteB, List.append_nil, List.append_assoc]
        generalize xs10 ++ votesB (vs.take j) = xj at *
        have hbx := below1' wr (.cells #[.int .i64 vs0, .int .i64 vb0, .int .i64 vc0.id, .int .i64 vc0.kind, .string vc0.key, .int .i64 vc0.blob, .int .i64 vc0.other, .int .i64 vc0.index, .int .i64 vc0.node, .int .i64 vc0.size, .int .u32 vc0.sum, .int .i64 vc0.k, .int .i64 vc0.m, .slice nA vl0.length nd] 74)
        have HOx := Lib.hid (own_below ho hbx)
        have hBx := hB.trans (hbx.mono hB.size)
        have HEQx := Lib.hid ((hbx.block w.heap.size (by omega)).trans HEQ.out)
        have HCW2 := Lib.hid (rcmd_own (l := vl0) (n := vl0.length) (d := nd) vc0 (hn1.below hBx) rfl (by have := hp3.len; omega) hmc hn4)
        have HLT := Lib.hid (show ∀ g, (Value.slice Aj xj.length cj).ownBlock = some g → g < wr.heap.size from fun g hg => (ho.lt g hg).2)
        have HZL := Lib.hid (cmdB_len hp3 hn4)
        have HZP := Lib.hid (cmdB_pos vc0 vl0)
        have hgx : (wr.alloc (.cells #[.int .i64 vs0, .int .i64 vb0, .int .i64 vc0.id, .int .i64 vc0.kind, .string vc0.key, .int .i64 vc0.blob, .int .i64 vc0.other, .int .i64 vc0.index, .int .i64 vc0.node, .int .i64 vc0.size, .int .u32 vc0.sum, .int .i64 vc0.k, .int .i64 vc0.m, .slice nA vl0.length nd] 74)).heap[wr.heap.size]? = some (.cells #[.int .i64 vs0, .int .i64 vb0, .int .i64 vc0.id, .int .i64 vc0.kind, .string vc0.key, .int .i64 vc0.blob, .int .i64 vc0.other, .int .i64 vc0.index, .int .i64 vc0.node, .int .i64 vc0.size, .int .u32 vc0.sum, .int .i64 vc0.k, .int .i64 vc0.m, .slice nA vl0.length nd] 74 (0, 0)) := heap_alloc_new wr _
        have HGX := Lib.hid hgx
        have hzx : (wr.alloc (.cells #[.int .i64 vs0, .int .i64 vb0, .int .i64 vc0.id, .int .i64 vc0.kind, .string vc0.key, .int .i64 vc0.blob, .int .i64 vc0.other, .int .i64 vc0.index, .int .i64 vc0.node, .int .i64 vc0.size, .int .u32 vc0.sum, .int .i64 vc0.k, .int .i64 vc0.m, .slice nA vl0.length nd] 74)).heap.size = wr.heap.size + 1 := by simp
        clear hv hat hmv hp3 hvb hn2 hp1 hp2 HTK hmc ho hB HEQ hbx hn1 hgx
        generalize cmdB vc0 vl0 = zc2 at *
        go_wp2_with (refine wpList_load_at rfl 74 (.tmp 61) rfl rfl hat1 Try.underlying74 rfl (by kernel_rfl) ?_)
        refine HCW2.out.mono ?_
        rintro e1 w12 ⟨A12, c12, rfl, hon12, hb12⟩
        clear HCW2 hat1
        have hg12 := (hb12.block wr.heap.size (by omega)).trans HGX.out
        have HO12 := Lib.hid (own_below HOx.out hb12)
        have HEQ12 := Lib.hid ((hb12.block w.heap.size (by omega)).trans HEQx.out)
        have hB12 := hBx.trans (hb12.mono (by omega))
        have hz12 : w3.heap.size ≤ w12.heap.size := by have := hb12.size; omega
        have he := vcells_of hg12
        obtain ⟨f0, f1, f2, f3, f4, f5, f6, f7, f8, f9, f10, f11, f12, f13⟩ := he
        clear f2 f3 f4 f5 f6 f7 f8 f9 f10 f11 f12 f13
        clear HOx HEQx HGX hBx hb12
        go_wp2_with fail
        clear f0 f1
        have hbl := below1' w12 (.cells #[.int .i64 vs0, .int .i64 vb0] 3)
        have hat13 : At (w12.alloc (.cells #[.int .i64 vs0, .int .i64 vb0] 3)) (some ⟨w12.heap.size, 0, none⟩) (ints (natsV [vs0.toNat, vb0.toNat])) := by
          rw [hvm.out]
          exact at_new w12 #[.int .i64 vs0, .int .i64 vb0] 3 (0, 0)
        refine (rnums_calls (ns := [vs0.toNat, vb0.toNat]) hat13 rfl HVB.out (by simp)).mono ?_
        rintro e1 w14 ⟨A14, c14, rfl, ho14, hb14⟩
        have hb1214 : Below w12.heap.size w12 w14 := hbl.trans (hb14.mono (by simp))
        have hoj14 := own_below HO12.out hb1214
        have hat14 := own_at ho14
        have hnil14 := own_nil ho14
        have honc := own_below hon12 hb1214
        have hnilc := own_nil hon12
        have HEQ14 := Lib.hid ((hb1214.block w.heap.size (by omega)).trans HEQ12.out)
        have hB14 := hB12.trans (hb1214.mono hB12.size)
        have hz14 := Nat.le_trans hz12 hb1214.size
        have hnl2 : (numsB [vs0.toNat, vb0.toNat]).length ≤ 18 := by
          have := numsB_len (ns := [vs0.toNat, vb0.toNat]) (fun x hx => by have := HVB.out x hx; omega)
          simpa using this
        have hzl2 := HZL.out
        generalize numsB [vs0.toNat, vb0.toNat] = z2 at *
        clear hbl hat13 hb14 hb1214 ho14 HO12 HEQ12 hB12 hz12 hon12 hvm HVB
        go_wp2_with (first
          | (refine app_bytes rfl (.tmp 69) (.tmp 75) rfl w3.heap.size (v := .slice Aj xj.length cj) rfl hoj14 rfl (news := z2) rfl hat14 hnil14 (by omega) hz14 ?_; intro A16 c16 w16 ho16 hb16 hg16 hcap16
             have hatc16 : At w16 A12 (bys zc2) := own_at (honc.kept hg16.1 (by
               cases hu : (Value.slice A12 zc2.length c12).ownBlock with
               | none => exact .inl rfl
               | some b =>
                 refine .inr fun hh => ?_
                 have h1 := (honc.lt b hu).1
                 have h2 := HLT.out b hh.symm
                 omega))
             have hz16 := Nat.le_trans hz14 hb16.size)
          | (refine app_bytes rfl (.tmp 76) (.tmp 77) rfl w3.heap.size (v := .slice A16 (xj.length + z2.length) c16) rfl ho16 rfl (news := zc2) rfl hatc16 hnilc (by omega) hz16 ?_; intro A17 c17 w17 ho17 hb17 hg17 hcap17))
        have hlz : xj.length + z2.length + zc2.length = (xj ++ z2 ++ zc2).length := by simp only [List.length_append]
        rw [hlz] at ho17
        rw [← HXJ.out] at ho17 hlz
        refine ⟨⟨j + 1, A17, c17, by omega, by go_num, by rw [hlz], ho17, (hB14.trans (hb16.mono (by omega))).trans (hb17.mono (by omega)), Lib.hid (((hb17.block w.heap.size (by omega)).trans (hb16.block w.heap.size (by omega))).trans HEQ14.out), Nat.le_trans hz16 hb17.size⟩, by simp [intOf]; omega⟩
      · obtain rfl : vs.length = j := by omega
        rw [List.take_length] at ho ⊢
        have hnj : (xs10 ++ votesB vs).length ≤ 2800000 := by
          have := votesB_len vs (fun u hu => ⟨HOK.out.votes u hu, Vts.sum _ _ hvV u hu⟩)
          rw [List.length_append]
          omega
        have HX2 : Hid (res = (xs10 ++ votesB vs) ++ (numB bs.length ++ bs)) := by show res = _; rw [HX1.out]; simp only [List.append_assoc]
        clear HX1 hn10
        generalize xs10 ++ votesB vs = xj at *
        have HRj := Lib.hid (HEQ.out.trans HR10.out)
        clear HEQ HR10
        go_wp2_with fail
        have hD : Below wr.heap.size wr wr.drew := (belowN 1 : Below wr.heap.size wr (wr.drewN 1))
        have hoD := own_below ho hD
        have hBD := hB.trans (hD.mono hB.size)
        have hatD := HKw.out.bs.below hBD
        have hnilB := HKw.out.bnil
        simp only at hatD
        have HRD := Lib.hid ((hD.block w.heap.size (by omega)).trans HRj.out)
        have hzD := Nat.le_trans hzr hD.size
        have e23D := cell_of_row _ _ 23 _ _ (0, 0) HRD.out
        simp only [List.getElem?_toArray, List.getElem?_cons_succ, List.getElem?_cons_zero] at e23D
        refine wp_region_held_drew (S := fun w' => w'.cell? ⟨w.heap.size, 23, none⟩ = some (.slice B bs.length f)) (by kernel_rfl) e23D (fun hHeld => ?_)
        generalize wr.drew = WD at *
        clear hD ho hB HRj
        refine wpAnyH_take (i := 0) (v := ?_) rfl (by kernel_rfl) (by kernel_rfl) (by kernel_rfl) (fun _ _ _ h => h) (Or.inl ⟨by rfl, ?_⟩) (by assumption) ?_; rotate_left; (intro w hSw; (try dsimp only at hSw); go_simp; (first | done | (with_reducible rfl))); (try simp only [List.getElem_toArray, List.getElem_cons_succ, List.getElem_cons_zero, Act.put, List.setIfInBounds_toArray, List.set_cons_zero, List.set_cons_succ])
        refine wpAnyH_take (i := 1) (v := ?_) rfl (by kernel_rfl) (by kernel_rfl) (by kernel_rfl) (fun _ _ _ h => h) (Or.inl ⟨by rfl, ?_⟩) (by assumption) ?_; rotate_left; (intro w hSw; (try dsimp only at hSw); go_simp; (first | done | (with_reducible rfl))); (try simp only [List.getElem_toArray, List.getElem_cons_succ, List.getElem_cons_zero, Act.put, List.setIfInBounds_toArray, List.set_cons_zero, List.set_cons_succ])
        refine wpAnyH_take (i := 2) (v := ?_) rfl (by kernel_rfl) (by kernel_rfl) (by kernel_rfl) (fun _ _ _ h => h) (Or.inl ⟨by rfl, ?_⟩) (by assumption) ?_; rotate_left; (intro w hSw; (try dsimp only at hSw); go_simp; (first | done | (with_reducible rfl))); (try simp only [List.getElem_toArray, List.getElem_cons_succ, List.getElem_cons_zero, Act.put, List.setIfInBounds_toArray, List.set_cons_zero, List.set_cons_succ])
        refine wpAnyH_take (i := 3) (v := ?_) rfl (by kernel_rfl) (by kernel_rfl) (by kernel_rfl) (fun _ _ _ h => h) (Or.inl ⟨by rfl, ?_⟩) (by assumption) ?_; rotate_left; (intro w hSw; (try dsimp only at hSw); go_simp; (first | done | (with_reducible rfl))); (try simp only [List.getElem_toArray, List.getElem_cons_succ, List.getElem_cons_zero, Act.put, List.setIfInBounds_toArray, List.set_cons_zero, List.set_cons_succ])
        refine wpAnyH_take (i := 6) (v := ?_) rfl (by kernel_rfl) (by kernel_rfl) (by kernel_rfl) (fun _ _ _ h => h) (Or.inl ⟨by rfl, ?_⟩) (by assumption) ?_; rotate_left; (intro w hSw; (try dsimp only at hSw); go_simp; (first | done | (with_reducible rfl))); (try simp only [List.getElem_toArray, List.getElem_cons_succ, List.getElem_cons_zero, Act.put, List.setIfInBounds_toArray, List.set_cons_zero, List.set_cons_succ])
        refine wpAnyH_take (i := 7) (v := ?_) rfl (by kernel_rfl) (by kernel_rfl) (by kernel_rfl) (fun _ _ _ h => h) (Or.inl ⟨by rfl, ?_⟩) (by assumption) ?_; rotate_left; (intro w hSw; (try dsimp only at hSw); go_simp; (first | done | (with_reducible rfl))); (try simp only [List.getElem_toArray, List.getElem_cons_succ, List.getElem_cons_zero, Act.put, List.setIfInBounds_toArray, List.set_cons_zero, List.set_cons_succ])
        have hbl2 : bs.length ≤ 2000 := HOK.out.blen
        have HNM := Lib.hid (num_calls (w := WD) bs.length (by omega))
        refine wpAnyH_ready (rs := [4]) (by kernel_rfl) (by simp) ?_; refine AllReadyH.cons rfl (fun KK hKK => ?_) AllReadyH.nil
        go_simp
        refine HNM.out.mono ?_
        rintro e1 w20 ⟨A20, c20, rfl, ho20, hb20⟩
        go_wp2_with fail
        have hoj20 := own_below hoD hb20
        have e2320 := (hb20.cell (p := ⟨w.heap.size, 23, none⟩) (block_lt e23D)).trans e23D
        have hB20 := hBD.trans (hb20.mono hBD.size)
        have hz20 := Nat.le_trans hzD hb20.size
        have hat20 := own_at ho20
        have hnil20 := own_nil ho20
        refine hKK.out _ _ e2320 (fun hHeld => ?_)
        clear hKK KK
        (try simp only [List.getElem_toArray, List.getElem_cons_succ, List.getElem_cons_zero, Act.put, List.setIfInBounds_toArray, List.set_cons_zero, List.set_cons_succ])
        clear hb20 e23D hBD hzD HNM hoD ho20 hatD
        have hnl := numB_len (n := bs.length) (by omega)
        generalize numB bs.length = zn2 at *
        refine wpAnyH_ready (rs := [5]) (by kernel_rfl) (by simp) ?_; refine AllReadyH.cons rfl (fun KK hKK => ?_) AllReadyH.nil
        refine step_app_bytes rfl (.tmp 80) (.tmp 84) rfl w3.heap.size (v := .slice Aj xj.length cj) rfl hoj20 rfl (news := zn2) rfl hat20 hnil20 (by omega) hz20 ?_
        intro A21 c21 w21 ho21 hb21 hg21 hc21
        have e2321 := (hb21.cell (p := ⟨w.heap.size, 23, none⟩) (by show w.heap.size < w3.heap.size; omega)).trans e2320
        have hB21 := hB20.trans (hb21.mono (by omega))
        have hz21 := Nat.le_trans hz20 hb21.size
        refine hKK.out _ _ e2321 (fun hHeld => ?_)
        clear hKK KK
        (try simp only [List.getElem_toArray, List.getElem_cons_succ, List.getElem_cons_zero, Act.put, List.setIfInBounds_toArray, List.set_cons_zero, List.set_cons_succ])
        clear hb21 hg21 hc21 e2320 hB20 hz20 hoj20 hat20 hnil20
        have hatB := HKw.out.bs.below hB21
        simp only at hatB
        refine wpAnyH_ready (rs := [8]) (by kernel_rfl) (by simp) ?_; refine AllReadyH.cons rfl (fun KK hKK => ?_) AllReadyH.nil
        refine step_app_bytes rfl (.tmp 85) (.tmp 87) rfl w3.heap.size (v := .slice A21 (xj.length + zn2.length) c21) rfl ho21 rfl (news := bs) rfl hatB hnilB (by omega) hz21 ?_
        intro A22 c22 w22 ho22 hb22 hg22 hc22
        have e2322 := (hb22.cell (p := ⟨w.heap.size, 23, none⟩) (by show w.heap.size < w3.heap.size; omega)).trans e2321
        have hB22 := hB21.trans (hb22.mono (by omega))
        refine hKK.out _ _ e2322 (fun hHeld => ?_)
        clear hKK KK
        (try simp only [List.getElem_toArray, List.getElem_cons_succ, List.getElem_cons_zero, Act.put, List.setIfInBounds_toArray, List.set_cons_zero, List.set_cons_succ])
        refine wpAnyH_take (i := 9) (v := ?_) rfl (by kernel_rfl) (by kernel_rfl) (by kernel_rfl) (fun _ _ _ h => h) (Or.inl ⟨by rfl, ?_⟩) (by assumption) ?_; rotate_left; (intro w hSw; (try dsimp only at hSw); go_simp; (first | done | (with_reducible rfl))); (try simp only [List.getElem_toArray, List.getElem_cons_succ, List.getElem_cons_zero, Act.put, List.setIfInBounds_toArray, List.set_cons_zero, List.set_cons_succ])
        refine wpAnyH_take (i := 10) (v := ?_) rfl (by kernel_rfl) (by kernel_rfl) (by kernel_rfl) (fun _ _ _ h => h) (Or.inl ⟨by rfl, ?_⟩) (by assumption) ?_; rotate_left; (intro w hSw; (try dsimp only at hSw); go_simp; (first | done | (with_reducible rfl))); (try simp only [List.getElem_toArray, List.getElem_cons_succ, List.getElem_cons_zero, Act.put, List.setIfInBounds_toArray, List.set_cons_zero, List.set_cons_succ])
        refine wpAnyH_done (by kernel_rfl) ?_ _
        go_wp2_with fail
        go_ret2
        have hlz : xj.length + zn2.length + bs.length = (xj ++ zn2 ++ bs).length := by simp only [List.length_append]
        rw [hlz] at ho22
        have HX3 : res = xj ++ zn2 ++ bs := by rw [HX2.out, List.append_assoc]
        rw [HX3]
        exact ⟨A22, c22, by rw [hlz]; rfl, own_at ho22, hB22⟩
end Go.Proofs.Ytfcacplecapgfaa
