/- For the law FrameBack: frame.Msg of what may not be, frame.Cmd with bytes of one's own, Wrap and Unwrap. -/
import Derived.Test.YtfcacplecapgfaaG11
import Derived.Test.YtfcacplecapgfaaF4
import Derived.Test.YtfcacplecapgfaaF5
namespace Go.Proofs.Ytfcacplecapgfaa
open Go.RowKit
set_option linter.unusedVariables false
set_option linter.unusedSimpArgs false

theorem wrap_ok {w : World} {A : Option Addr} {n c : Nat} {l : List B8} (hA : At w A (bys l)) (hn : n = l.length) (hnil : A = none → c = 0) (h1 : 1 ≤ n) (h2 : n ≤ 65535) :
    Calls Try.prog 20 #[.slice A n c] w fun e w' => ∃ A' c', e = .returned (.tuple #[.slice A' (n + 7) c', .int .i64 0]) ∧ w'.ownsRow w.heap.size 5 1 (.slice A' (n + 7) c') (n + 7) (bys (wrapF l)) ∧ Below w.heap.size w w' := by
  refine (wrap_calls hA hn hnil (by omega)).mono ?_
  rintro e w' ⟨A', c', rfl, ho, hb⟩
  have hr : wrapR l = (wrapF l, 0) := by unfold wrapR; rw [if_pos (by omega)]
  rw [hr] at ho ⊢
  rw [length_wrapF] at ho ⊢
  subst hn
  exact ⟨A', c', rfl, ho, hb⟩


theorem unwrap_to {w : World} {A : Option Addr} {n c : Nat} {l : List B8} {r : List B8 × List B8 × Int} (hr : unwrapF l = r) (hA : At w A (bys l)) (hn : n = l.length) (hnc : n ≤ c) (hnil : A = none → c = 0) (hmax : l.length ≤ 140737488355328) :
    Calls Try.prog 21 #[.slice A n c] w (RetU w r) := by
  subst hr; exact unwrap_calls hA hn hnc hnil hmax


theorem unwrap_wrap (l rest : List B8) (h0 : 1 ≤ l.length) (h1 : l.length ≤ 65535) : unwrapF (wrapF l ++ rest) = (l, rest, 0) := by
  have hl : (wrapF l ++ rest).length = l.length + 7 + rest.length := by simp
  have U := unwrapAt (wrapF l ++ rest)
  have hf : ∀ j (hj : j < l.length + 7), (wrapF l ++ rest)[j]'(by omega) = (wrapF l)[j]'(by rw [length_wrapF]; omega) := fun j hj => List.getElem_append_left _
  have h00 : (wrapF l)[0]'(by rw [length_wrapF]; omega) = 0xa3#8 := by simp [wrapF, held]
  have h1' : (wrapF l)[1]'(by rw [length_wrapF]; omega) = BitVec.ofNat 8 (l.length / 256) := by simp [wrapF, held, be16]
  have h2' : (wrapF l)[2]'(by rw [length_wrapF]; omega) = BitVec.ofNat 8 l.length := by simp [wrapF, held, be16]
  have hn : l.length = ((wrapF l ++ rest)[1]'(by omega)).toNat * 256 + ((wrapF l ++ rest)[2]'(by omega)).toNat := by
    rw [hf 1 (by omega), hf 2 (by omega), h1', h2', BitVec.toNat_ofNat, BitVec.toNat_ofNat]
    omega
  have hw : wrapF l ++ rest = held l ++ (be32 (crc (held l)) ++ rest) := by unfold wrapF; rw [List.append_assoc]
  have ht : (wrapF l ++ rest).take (l.length + 3) = held l := by
    rw [hw, List.take_append_of_le_length (by simp), List.take_of_length_le (by simp)]
  have hd : ((wrapF l ++ rest).drop (l.length + 3)).take 4 = be32 (crc (held l)) := by
    rw [hw, List.drop_append_of_le_length (by simp), List.drop_of_length_le (by simp)]
    rfl
  rw [U.good (by omega) (by rw [hf 0 (by omega), h00]) l.length hn (by omega) (by omega) (by rw [hd, ht])]
  have e1 : ((wrapF l ++ rest).drop 3).take l.length = l := by
    rw [hw]
    have : held l = [0xa3#8, BitVec.ofNat 8 (l.length / 256), BitVec.ofNat 8 l.length] ++ l := rfl
    rw [this, List.append_assoc, List.drop_left' (by rfl), List.take_append_of_le_length (by omega), List.take_of_length_le (by omega)]
  have e2 : (wrapF l ++ rest).drop (l.length + 7) = rest := by rw [List.drop_append_of_le_length (by simp), List.drop_of_length_le (by simp)]; rfl
  rw [e1, e2]


set_option maxHeartbeats 2000000 in
set_option maxRecDepth 100000 in
theorem fcmd_own {w : World} (c : Cm) {A : Option Addr} {n d : Nat} {l : List Int} (hA : At w A (ints l)) (hn : n = l.length) (hmax : n ≤ 140737488355328) (hyes : mayC c l = true) (hsum : 0 ≤ c.sum ∧ c.sum < 4294967296) :
    Calls Try.prog 7 #[.agg #[.int .i64 c.id, .int .i64 c.kind, .string c.key, .int .i64 c.blob, .int .i64 c.other, .int .i64 c.index, .int .i64 c.node, .int .i64 c.size, .int .u32 c.sum, .int .i64 c.k, .int .i64 c.m, .slice A n d]] w (RetBo w (cmdB c l) 0) := by
  obtain ⟨wb, hwb, hB, hr, hz⟩ := cmd_box w c (.slice A n d)
  have HWB := Lib.hid hwb
  have HMC := Lib.hid (mayCmd_calls (w := wb) c (d := d) (hA.below hB) hn hmax)
  rw [hyes] at HMC
  obtain ⟨e0, e1, e2, e3, e4, e5, e6, e7, e8, e9, e10, e11⟩ := cells_of hr
  have HA := Lib.hid hA
  have HN := Lib.hid hn
  have HOK := Lib.hid (mayC_ok.1 hyes)
  clear hA hn hmax hyes hwb
  go_enter Try.func7, Try.ntmps7
  go_wp2_with fail
  have hwb := HWB.out
  rw [← hwb]
  clear hwb HWB e0 e1 e2 e3 e4 e5 e6 e7 e8 e9 e10 e11
  refine HMC.out.mono ?_
  rintro e w2 ⟨rfl, hb2⟩
  have hB2 := hB.trans (hb2.mono hB.size)
  have hr2 := (hb2.block w.heap.size (by omega)).trans hr
  have hsz2 : w.heap.size < w2.heap.size := (Array.getElem?_eq_some_iff.1 hr2).1
  have hbw := below1' w2 (.cells #[.slice none 0 0] 54)
  have hr3 := (hbw.block w.heap.size hsz2).trans hr2
  obtain ⟨e0, e1, e2, e3, e4, e5, e6, e7, e8, e9, e10, e11⟩ := cells_of hr3
  have hB3 := hB2.trans (hbw.mono hB2.size)
  have hW3 : WrAt (w2.alloc (.cells #[.slice none 0 0] 54)) w2.heap.size none 0 [] := ⟨heap_alloc_new w2 _, World.ownsRow_nil _ _ _ _⟩
  have HWC := Lib.hid (wcmd_calls (n := n) (d := d) c hW3 (HA.out.below hB3) HN.out (fun hl0 b off he => ⟨by
    obtain ⟨b', off', he', hc⟩ := HA.out.int (k := 0) hl0
    rw [he] at he'
    injection he' with he'
    injection he' with he1 _
    have := block_lt hc
    omega, by intro h; cases h⟩) HOK.out hsum (by simp))
  rw [List.nil_append] at HWC
  have hsz3 : w.heap.size < (w2.alloc (.cells #[.slice none 0 0] 54)).heap.size := by simp; omega
  have hp3 : w2.heap.size ≤ (w2.alloc (.cells #[.slice none 0 0] 54)).heap.size := by simp
  generalize cmdB c l = bs at *
  clear hW3 hbw hr2 hb2 hr HMC hB
  go_wp2_with fail
  generalize w2.alloc (.cells #[.slice none 0 0] 54) = w3 at *
  refine HWC.out.mono ?_
  rintro e w4 ⟨rfl, A4, c4, hW4, hC4⟩
  have hp4 := cell_of_row _ _ 0 _ _ (0, 0) hW4.hd
  simp only [List.getElem?_toArray, List.getElem?_cons_zero] at hp4
  have hB4 := hB3.trans ((hC4.below (fun k h => by cases h) hp3).mono (Nat.le_of_lt hsz2))
  have hat := hW4.own
  have hpw2 := Nat.le_of_lt hsz2
  clear HWC hr3 e0 e1 e2 e3 e4 e5 e6 e7 e8 e9 e10 e11
  go_wp2_with fail
  go_ret2
  exact ⟨A4, c4, rfl, own_lower hat (by omega), hB4⟩


theorem own_cap {w : World} {B e sz n c : Nat} {A : Option Addr} {vs : List Value} (h : w.ownsRow B e sz (.slice A n c) n vs) : n ≤ c := by
  rcases h.2 with ⟨hv, hn⟩ | ⟨g, cap, cur, hv, hg, hh, hnc, _⟩
  · omega
  · injection hv with h1 h2 h3; omega
theorem own_slb {w : World} {B' : Nat} {A : Option Addr} {c : Nat} {l : List B8} (h : w.ownsRow B' 5 1 (.slice A l.length c) l.length (bys l)) : SlB w A c l := by
  refine ⟨own_at h, fun a ha => ?_, own_nil h, own_cap h⟩
  rcases own_addr h with ⟨h1, _⟩ | ⟨g, h1, _, _, h2⟩
  · rw [h1] at ha; cases ha
  · rw [h1] at ha; injection ha with ha; subst ha; exact ⟨rfl, h2⟩
set_option maxHeartbeats 4000000 in
set_option maxRecDepth 100000 in
theorem fmsg_bad {w : World} {m : Mg} {A V B : Option Addr} {d e f : Nat} (h : MgAt w A d V B f m) (hok : mayM m = false) :
    Calls Try.prog 16 #[.agg #[.int .i64 m.h.kind, .int .i64 m.h.frm, .int .i64 m.h.to, .int .i64 m.h.ballot, .int .i64 m.h.slot, .int .i64 m.h.blob, .int .i64 m.h.index, .int .i64 m.h.epoch, .int .i64 m.h.id, .bool m.h.ok, .int .i64 m.h.cmd.id, .int .i64 m.h.cmd.kind, .string m.h.cmd.key, .int .i64 m.h.cmd.blob, .int .i64 m.h.cmd.other, .int .i64 m.h.cmd.index, .int .i64 m.h.cmd.node, .int .i64 m.h.cmd.size, .int .u32 m.h.cmd.sum, .int .i64 m.h.cmd.k, .int .i64 m.h.cmd.m, .slice A m.cn.length d, .slice V m.vs.length e, .slice B m.bs.length f]] w fun e w' => e = .returned (.tuple #[.slice none 0 0, .int .i64 1]) ∧ Below w.heap.size w w' := by
  obtain ⟨mh, cn, vs, bs⟩ := m
  simp only
  obtain ⟨wb, hwb, hBb, hrb, hzb⟩ := any_box w #[.int .i64 mh.kind, .int .i64 mh.frm, .int .i64 mh.to, .int .i64 mh.ballot, .int .i64 mh.slot, .int .i64 mh.blob, .int .i64 mh.index, .int .i64 mh.epoch, .int .i64 mh.id, .bool mh.ok, .int .i64 mh.cmd.id, .int .i64 mh.cmd.kind, .string mh.cmd.key, .int .i64 mh.cmd.blob, .int .i64 mh.cmd.other, .int .i64 mh.cmd.index, .int .i64 mh.cmd.node, .int .i64 mh.cmd.size, .int .u32 mh.cmd.sum, .int .i64 mh.cmd.k, .int .i64 mh.cmd.m, .slice A cn.length d, .slice V vs.length e, .slice B bs.length f] 40
  have HW := Lib.hid hwb
  have HMC := Lib.hid (mayMsg_calls (e := e) (h.below hBb))
  rw [hok] at HMC
  simp only at HMC
  have hatM : At (w.alloc (.cells #[.int .i64 mh.kind, .int .i64 mh.frm, .int .i64 mh.to, .int .i64 mh.ballot, .int .i64 mh.slot, .int .i64 mh.blob, .int .i64 mh.index, .int .i64 mh.epoch, .int .i64 mh.id, .bool mh.ok, .int .i64 mh.cmd.id, .int .i64 mh.cmd.kind, .string mh.cmd.key, .int .i64 mh.cmd.blob, .int .i64 mh.cmd.other, .int .i64 mh.cmd.index, .int .i64 mh.cmd.node, .int .i64 mh.cmd.size, .int .u32 mh.cmd.sum, .int .i64 mh.cmd.k, .int .i64 mh.cmd.m, .slice A cn.length d, .slice V vs.length e, .slice B bs.length f] 40)) (some ⟨w.heap.size, 0, none⟩) [.int .i64 mh.kind, .int .i64 mh.frm, .int .i64 mh.to, .int .i64 mh.ballot, .int .i64 mh.slot, .int .i64 mh.blob, .int .i64 mh.index, .int .i64 mh.epoch, .int .i64 mh.id, .bool mh.ok, .int .i64 mh.cmd.id, .int .i64 mh.cmd.kind, .string mh.cmd.key, .int .i64 mh.cmd.blob, .int .i64 mh.cmd.other, .int .i64 mh.cmd.index, .int .i64 mh.cmd.node, .int .i64 mh.cmd.size, .int .u32 mh.cmd.sum, .int .i64 mh.cmd.k, .int .i64 mh.cmd.m, .slice A cn.length d, .slice V vs.length e, .slice B bs.length f] := at_alloc w #[.int .i64 mh.kind, .int .i64 mh.frm, .int .i64 mh.to, .int .i64 mh.ballot, .int .i64 mh.slot, .int .i64 mh.blob, .int .i64 mh.index, .int .i64 mh.epoch, .int .i64 mh.id, .bool mh.ok, .int .i64 mh.cmd.id, .int .i64 mh.cmd.kind, .string mh.cmd.key, .int .i64 mh.cmd.blob, .int .i64 mh.cmd.other, .int .i64 mh.cmd.index, .int .i64 mh.cmd.node, .int .i64 mh.cmd.size, .int .u32 mh.cmd.sum, .int .i64 mh.cmd.k, .int .i64 mh.cmd.m, .slice A cn.length d, .slice V vs.length e, .slice B bs.length f] 40 (0, 0)
  clear hwb hrb h hok
  go_enter Try.func16, Try.ntmps16
  go_wp2_with (refine wpList_load_at rfl 40 (.tmp 1) rfl rfl hatM Try.underlying40 rfl (by kernel_rfl) ?_)
  have hwb := HW.out
  rw [← hwb]
  clear hwb HW hatM
  refine HMC.out.mono ?_
  rintro e1 w2 ⟨rfl, hb2⟩
  go_wp2_with fail
  go_ret2
  exact ⟨rfl, hBb.trans (hb2.mono hBb.size)⟩
end Go.Proofs.Ytfcacplecapgfaa
