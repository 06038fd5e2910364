/- Contract: frame's writer, commands; frame.Cmd. -/
import Derived.Test.YtfcacplecapgfaaE4
namespace Go.Proofs.Ytfcacplecapgfaa
open Go.RowKit
set_option linter.unusedVariables false
set_option linter.unusedSimpArgs false

/-- A command's numbers. -/
def cmdN (c : Cm) : List Nat := [c.id.toNat, c.kind.toNat, c.blob.toNat, c.other.toNat, c.index.toNat, c.node.toNat, c.size.toNat, c.sum.toNat, c.k.toNat, c.m.toNat, c.key.size]
def natsOf (l : List Int) : List Nat := l.map Int.toNat
/-- A command's bytes. -/
def cmdB (c : Cm) (l : List Int) : List B8 := numsB (cmdN c) ++ strB c.key ++ numsB [l.length] ++ numsB (natsOf l)
theorem natsV_of {l : List Int} (h : ∀ x, x ∈ l → 0 ≤ x) : natsV (natsOf l) = l := by
  unfold natsV natsOf
  rw [List.map_map]
  conv => rhs; rw [← List.map_id l]
  refine List.map_congr_left fun x hx => ?_
  have := h x hx
  simp
  omega
/-- What a command that may be is. -/
structure OkC (c : Cm) (l : List Int) : Prop where
  id : 0 ≤ c.id ∧ c.id ≤ 1152921504606846976
  blob : 0 ≤ c.blob ∧ c.blob ≤ 1152921504606846976
  other : 0 ≤ c.other ∧ c.other ≤ 1152921504606846976
  index : 0 ≤ c.index ∧ c.index ≤ 1152921504606846976
  size : 0 ≤ c.size ∧ c.size ≤ 1152921504606846976
  kind : 0 ≤ c.kind ∧ c.kind ≤ 12
  node : 0 ≤ c.node ∧ c.node ≤ 15
  k : 0 ≤ c.k ∧ c.k ≤ 255
  m : 0 ≤ c.m ∧ c.m ≤ 255
  len : l.length ≤ 255
  key : c.key.size ≤ 8
  nodes : ∀ x, x ∈ l → 0 ≤ x ∧ x ≤ 15
theorem wideB_false {most : Int} {l : List Int} : wideB most l = false ↔ ∀ x, x ∈ l → 0 ≤ x ∧ x ≤ most := by
  unfold wideB
  rw [List.any_eq_false]
  constructor
  · intro h x hx
    have := h x hx
    simp at this
    omega
  · intro h x hx
    have := h x hx
    simp
    omega
theorem mayC_ok {c : Cm} {l : List Int} : mayC c l = true ↔ OkC c l := by
  unfold mayC
  simp only [Bool.and_eq_true, Bool.not_eq_true', wideB_false, decide_eq_true_eq]
  constructor
  · rintro ⟨⟨⟨⟨⟨h1, h2⟩, h3⟩, h4⟩, h5⟩, h6⟩
    have hl := h4 (l.length : Int) (by simp)
    exact ⟨h1 _ (by simp), h1 _ (by simp), h1 _ (by simp), h1 _ (by simp), h1 _ (by simp), h2 _ (by simp), h3 _ (by simp), h4 _ (by simp), h4 _ (by simp), by omega, h5, h6⟩
  · intro h
    refine ⟨⟨⟨⟨⟨?_, ?_⟩, ?_⟩, ?_⟩, h.key⟩, h.nodes⟩
    · intro x hx
      simp only [List.mem_cons, List.not_mem_nil, or_false] at hx
      rcases hx with rfl | rfl | rfl | rfl | rfl
      · exact h.id
      · exact h.blob
      · exact h.other
      · exact h.index
      · exact h.size
    · intro x hx
      simp only [List.mem_cons, List.not_mem_nil, or_false] at hx
      subst hx; exact h.kind
    · intro x hx
      simp only [List.mem_cons, List.not_mem_nil, or_false] at hx
      subst hx; exact h.node
    · intro x hx
      simp only [List.mem_cons, List.not_mem_nil, or_false] at hx
      have := h.len
      rcases hx with rfl | rfl | rfl
      · exact h.k
      · exact h.m
      · omega

set_option maxHeartbeats 2000000 in
set_option maxRecDepth 100000 in
theorem wcmd_calls {w : World} {pw c0 n d : Nat} {A0 A : Option Addr} {xs : List B8} (c : Cm) {l : List Int} (hW : WrAt w pw A0 c0 xs) (hA : At w A (ints l)) (hn : n = l.length) (hf : 0 < l.length → ∀ b off, A = some ⟨b, off, none⟩ → b ≠ pw ∧ A0 ≠ some ⟨b, 0, none⟩)
    (hok : OkC c l) (hsum : 0 ≤ c.sum ∧ c.sum < 4294967296) (hlen : xs.length ≤ 10000000) :
    Calls Try.prog 24 #[.pointer (some ⟨pw, 0, none⟩), .agg #[.int .i64 c.id, .int .i64 c.kind, .string c.key, .int .i64 c.blob, .int .i64 c.other, .int .i64 c.index, .int .i64 c.node, .int .i64 c.size, .int .u32 c.sum, .int .i64 c.k, .int .i64 c.m, .slice A n d]] w fun e w' => e = .returned (.tuple #[]) ∧ ∃ A' c', WrAt w' pw A' c' (xs ++ cmdB c l) ∧ Chg w w' pw A0 A' := by
  obtain ⟨wb, hwb, hB, hr, hz⟩ := cmd_box w c (.slice A n d)
  have HWB := Lib.hid hwb
  clear hwb
  have HA := Lib.hid hA
  have HF := Lib.hid hf
  have HOK := Lib.hid hok
  have HN := Lib.hid hn
  have hsw : IntKind.i64.wrap c.sum = c.sum := IntWalk.i64_in _ (by omega)
  obtain ⟨e0, e1, e2, e3, e4, e5, e6, e7, e8, e9, e10, e11⟩ := cells_of hr
  have hWb := hW.keep hB
  have hcode : natsV (cmdN c) = [c.id, c.kind, c.blob, c.other, c.index, c.node, c.size, c.sum, c.k, c.m, (c.key.size : Int)] := by
    have h := hok
    unfold natsV cmdN
    simp only [List.map_cons, List.map_nil]
    rw [Int.toNat_of_nonneg h.id.1, Int.toNat_of_nonneg h.kind.1, Int.toNat_of_nonneg h.blob.1, Int.toNat_of_nonneg h.other.1, Int.toNat_of_nonneg h.index.1, Int.toNat_of_nonneg h.node.1, Int.toNat_of_nonneg h.size.1, Int.toNat_of_nonneg hsum.1, Int.toNat_of_nonneg h.k.1, Int.toNat_of_nonneg h.m.1]
  have HCO := Lib.hid hcode
  have hlw := hW.lt
  have HA0 : Hid (∀ k, A0 = some ⟨k, 0, none⟩ → k < w.heap.size) := by
    intro k he
    rcases own_addr hW.own with ⟨h1, _⟩ | ⟨g, h1, _, _, h2⟩
    · rw [h1] at he; cases he
    · rw [h1] at he; injection he with he; injection he with he; omega
  have hbd : ∀ x, x ∈ cmdN c → x ≤ 1152921504606846976 := by
    have h := hok
    intro x hx
    unfold cmdN at hx
    simp only [List.mem_cons, List.not_mem_nil, or_false] at hx
    have h1 := h.id; have h2 := h.kind; have h3 := h.blob; have h4 := h.other; have h5 := h.index; have h6 := h.node; have h7 := h.size; have h8 := h.k; have h9 := h.m; have h10 := h.key
    rcases hx with rfl | rfl | rfl | rfl | rfl | rfl | rfl | rfl | rfl | rfl | rfl <;> omega
  have HBD := Lib.hid hbd
  clear hA hf hn hok hW hcode hbd
  go_enter Try.func24, Try.ntmps24
  go_wp2_with fail
  have hwb := HWB.out
  rw [← hwb]
  clear hwb HWB e0 e1 e2 e3 e4 e5 e6 e7 e8 e9 e10 e11
  have hbl := below1' wb (.cells #[.int .i64 c.id, .int .i64 c.kind, .int .i64 c.blob, .int .i64 c.other, .int .i64 c.index, .int .i64 c.node, .int .i64 c.size, .int .i64 c.sum, .int .i64 c.k, .int .i64 c.m, .int .i64 (c.key.size : Int)] 3)
  have hat : At (wb.alloc (.cells #[.int .i64 c.id, .int .i64 c.kind, .int .i64 c.blob, .int .i64 c.other, .int .i64 c.index, .int .i64 c.node, .int .i64 c.size, .int .i64 c.sum, .int .i64 c.k, .int .i64 c.m, .int .i64 (c.key.size : Int)] 3)) (some ⟨w.heap.size + 1, 0, none⟩) (ints (natsV (cmdN c))) := by
    have := at_new wb #[.int .i64 c.id, .int .i64 c.kind, .int .i64 c.blob, .int .i64 c.other, .int .i64 c.index, .int .i64 c.node, .int .i64 c.size, .int .i64 c.sum, .int .i64 c.k, .int .i64 c.m, .int .i64 (c.key.size : Int)] 3 (0, 0)
    rw [hz] at this
    rw [HCO.out]
    exact this
  have hWl := hWb.keep hbl
  have hn0 : ∀ k, k = w.heap.size ∨ k = w.heap.size + 1 → k ≠ pw ∧ A0 ≠ some ⟨k, 0, none⟩ := fun k hk => ⟨by omega, fun he => by have := HA0.out k he; omega⟩
  refine (nums_calls (ns := cmdN c) hWl hat rfl (fun _ b off he => by injection he with he; injection he with he1 he2; exact hn0 b (.inr he1.symm)) HBD.out (by show _ + 9 * 11 ≤ _; omega)).mono ?_
  rintro e w2 ⟨rfl, A2, c2, hW2, hC2⟩
  have hr2 := (hC2.block w.heap.size (by simp; omega) (hn0 _ (.inl rfl)).1 (hn0 _ (.inl rfl)).2).trans ((hbl.block w.heap.size (by omega)).trans hr)
  have hC02 := (Chg.ofBelow hbl pw A0).trans hC2
  clear hbl hat hWl hC2 hWb hr
  have hl2 : (xs ++ numsB (cmdN c)).length ≤ 10000099 := by
    have := numsB_len (ns := cmdN c) (fun n hn => by have := HBD.out n hn; omega)
    rw [List.length_append]
    have h11 : (cmdN c).length = 11 := rfl
    omega
  have HX : Hid (xs ++ cmdB c l = (xs ++ numsB (cmdN c)) ++ (strB c.key ++ numsB [l.length] ++ numsB (natsOf l))) := by show _ = _; unfold cmdB; simp only [List.append_assoc]
  generalize xs ++ numsB (cmdN c) = ys at *
  go_wp2_with fail
  obtain ⟨e0, e1, e2, e3, e4, e5, e6, e7, e8, e9, e10, e11⟩ := cells_of hr2
  have hD : Below w2.heap.size w2 w2.drew := (belowN 1 : Below w2.heap.size w2 (w2.drewN 1))
  have hWD := hW2.keep hD
  have hCD := hC02.trans (Chg.ofBelow hD pw A2)
  have hrD := (hD.block w.heap.size (by have := hW2.lt; have := hC02.size; omega)).trans hr2
  have e2D : w2.drew.cell? ⟨w.heap.size, 2, none⟩ = some (.string c.key) := e2
  refine wp_region_held_drew (S := fun w' => w'.cell? ⟨w.heap.size, 2, none⟩ = some (.string c.key)) (by kernel_rfl) e2D (fun hHeld => ?_)
  generalize w2.drew = WD at *
  clear hW2 hD hr2 e0 e1 e2 e3 e4 e5 e6 e7 e8 e9 e10 e11 hC02
  have hpD := cell_of_row _ _ 0 _ _ (0, 0) hWD.hd
  have hfD := frozen_of_row _ _ 0 _ _ hWD.hd
  simp only [List.getElem?_toArray, List.getElem?_cons_zero] at hpD
  refine wpAnyH_take (i := 0) (v := ?_) rfl (by kernel_rfl) (by kernel_rfl) (by kernel_rfl) (fun _ _ _ h => h) (Or.inl ⟨by rfl, ?_⟩) (by assumption) ?_; rotate_left; (intro w hSw; (try dsimp only at hSw); go_simp; (first | done | (with_reducible rfl))); (try simp only [List.getElem_toArray, List.getElem_cons_succ, List.getElem_cons_zero, Act.put, List.setIfInBounds_toArray, List.set_cons_zero, List.set_cons_succ])
  refine wpAnyH_take (i := 1) (v := ?_) rfl (by kernel_rfl) (by kernel_rfl) (by kernel_rfl) (fun _ _ _ h => h) (Or.inl ⟨by rfl, ?_⟩) (by assumption) ?_; rotate_left; (intro w hSw; (try dsimp only at hSw); go_simp; (first | done | (with_reducible rfl))); (try simp only [List.getElem_toArray, List.getElem_cons_succ, List.getElem_cons_zero, Act.put, List.setIfInBounds_toArray, List.set_cons_zero, List.set_cons_succ])
  refine wpAnyH_take (i := 2) (v := ?_) rfl (by kernel_rfl) (by kernel_rfl) (by kernel_rfl) (fun _ _ _ h => h) (Or.inl ⟨by rfl, ?_⟩) (by assumption) ?_; rotate_left; (intro w hSw; (try dsimp only at hSw); go_simp; (first | done | (with_reducible rfl))); (try simp only [List.getElem_toArray, List.getElem_cons_succ, List.getElem_cons_zero, Act.put, List.setIfInBounds_toArray, List.set_cons_zero, List.set_cons_succ])
  refine wpAnyH_take (i := 3) (v := ?_) rfl (by kernel_rfl) (by kernel_rfl) (by kernel_rfl) (fun _ _ _ h => h) (Or.inl ⟨by rfl, ?_⟩) (by assumption) ?_; rotate_left; (intro w hSw; (try dsimp only at hSw); go_simp; (first | done | (with_reducible rfl))); (try simp only [List.getElem_toArray, List.getElem_cons_succ, List.getElem_cons_zero, Act.put, List.setIfInBounds_toArray, List.set_cons_zero, List.set_cons_succ])
  refine wpAnyH_take (i := 5) (v := ?_) rfl (by kernel_rfl) (by kernel_rfl) (by kernel_rfl) (fun _ _ _ h => h) (Or.inl ⟨by rfl, ?_⟩) (by assumption) ?_; rotate_left; (intro w hSw; (try dsimp only at hSw); go_simp; (first | done | (with_reducible rfl))); (try simp only [List.getElem_toArray, List.getElem_cons_succ, List.getElem_cons_zero, Act.put, List.setIfInBounds_toArray, List.set_cons_zero, List.set_cons_succ])
  refine wpAnyH_take (i := 6) (v := ?_) rfl (by kernel_rfl) (by kernel_rfl) (by kernel_rfl) (fun _ _ _ h => h) (Or.inl ⟨by rfl, ?_⟩) (by assumption) ?_; rotate_left; (intro w hSw; (try dsimp only at hSw); go_simp; (first | done | (with_reducible rfl))); (try simp only [List.getElem_toArray, List.getElem_cons_succ, List.getElem_cons_zero, Act.put, List.setIfInBounds_toArray, List.set_cons_zero, List.set_cons_succ])
  refine wpAnyH_ready (rs := [4]) (by kernel_rfl) (by simp) ?_; refine AllReadyH.cons rfl (fun KK hKK => ?_) AllReadyH.nil
  go_simp
  go_wp2_with fail
  refine hKK.out _ _ e2D (fun hHeld => ?_)
  clear hKK KK
  (try simp only [List.getElem_toArray, List.getElem_cons_succ, List.getElem_cons_zero, Act.put, List.setIfInBounds_toArray, List.set_cons_zero, List.set_cons_succ])
  refine wpAnyH_ready (rs := [7]) (by kernel_rfl) (by simp) ?_; refine AllReadyH.cons rfl (fun KK hKK => ?_) AllReadyH.nil
  have hsz : pw + 1 ≤ WD.heap.size := hWD.lt
  refine step_app_str rfl (.tmp 37) (.tmp 39) rfl (pw + 1) (v := .slice A2 ys.length c2) rfl rfl hWD.own rfl (by have := HOK.out.key; omega) hsz ?_
  intro A3 c3 w3 ho3 hg3
  have hC3 := Chg.app (pw := pw) hWD.own ho3 hg3
  have hb3 : Below (pw + 1) WD w3 := below_grown (Below.refl _ _) hg3.1 hWD.own hsz
  have hbox : w.heap.size < WD.heap.size := block_lt e2D
  have hA2b : A2 ≠ some ⟨w.heap.size, 0, none⟩ := hCD.ne (by omega) (hn0 _ (.inl rfl)).2
  have hr3 := (hC3.block w.heap.size hbox (hn0 _ (.inl rfl)).1 hA2b).trans hrD
  have e23 := cell_of_row _ _ 2 _ _ (0, 0) hr3
  simp only [List.getElem?_toArray, List.getElem?_cons_succ, List.getElem?_cons_zero] at e23
  refine hKK.out _ _ e23 (fun hHeld => ?_)
  clear hKK KK
  (try simp only [List.getElem_toArray, List.getElem_cons_succ, List.getElem_cons_zero, Act.put, List.setIfInBounds_toArray, List.set_cons_zero, List.set_cons_succ])
  have hh3 := (hb3.block pw (by omega)).trans hWD.hd
  have hp3 := cell_of_row _ _ 0 _ _ (0, 0) hh3
  have hf3 := frozen_of_row _ _ 0 _ _ hh3
  simp only [List.getElem?_toArray, List.getElem?_cons_zero] at hp3
  refine wpAnyH_take (i := 8) (v := ?_) rfl (by kernel_rfl) (by kernel_rfl) (by kernel_rfl) (fun _ _ _ h => h) (Or.inl ⟨by rfl, ?_⟩) (by assumption) ?_; rotate_left; (intro w hSw; (try dsimp only at hSw); go_simp; (first | done | (with_reducible rfl))); (try simp only [List.getElem_toArray, List.getElem_cons_succ, List.getElem_cons_zero, Act.put, List.setIfInBounds_toArray, List.set_cons_zero, List.set_cons_succ])
  refine wpAnyH_take (i := 9) (v := ?_) rfl (by kernel_rfl) (by kernel_rfl) (by kernel_rfl) (fun _ _ _ h => h) (Or.inl ⟨by rfl, ?_⟩) (by assumption) ?_; rotate_left; (intro w hSw; (try dsimp only at hSw); go_simp; (first | done | (with_reducible rfl))); (try simp only [List.getElem_toArray, List.getElem_cons_succ, List.getElem_cons_zero, Act.put, List.setIfInBounds_toArray, List.set_cons_zero, List.set_cons_succ])
  refine wpAnyH_ready (rs := [10]) (by kernel_rfl) (by simp) ?_; refine AllReadyH.cons rfl (fun KK hKK => ?_) AllReadyH.nil
  go_simp
  go_wp2_with fail
  have hC4 := (hCD.trans hC3).trans (Chg.put w3 pw (.slice A3 (ys.length + c.key.size) c3) A3)
  have hA3b : A3 ≠ some ⟨w.heap.size, 0, none⟩ := (hCD.trans hC3).ne (by omega) (hn0 _ (.inl rfl)).2
  have hr4 := ((Chg.put w3 pw (.slice A3 (ys.length + c.key.size) c3) A3).block w.heap.size (Nat.lt_of_lt_of_le hbox hC3.size) (hn0 _ (.inl rfl)).1 hA3b).trans hr3
  have hW4 : WrAt (w3.setCell ⟨pw, 0, none⟩ (.slice A3 (ys.length + c.key.size) c3)) pw A3 c3 (ys ++ strB c.key) := by
    have hls : (ys ++ strB c.key).length = ys.length + c.key.size := by simp
    refine ⟨?_, ?_⟩
    · rw [hls]; exact heap_setCell_same w3 pw 0 _ _ _ hh3
    · rw [hls]; exact ownsRow_setCell_below ho3 (show pw < pw + 1 by omega) _
  obtain ⟨e0, e1, e2, e3, e4, e5, e6, e7, e8, e9, e10, e11⟩ := cells_of hr4
  refine hKK.out _ _ e2 (fun hHeld => ?_)
  clear hKK KK
  (try simp only [List.getElem_toArray, List.getElem_cons_succ, List.getElem_cons_zero, Act.put, List.setIfInBounds_toArray, List.set_cons_zero, List.set_cons_succ])
  refine wpAnyH_done (by kernel_rfl) ?_ _
  generalize w3.setCell ⟨pw, 0, none⟩ (.slice A3 (ys.length + c.key.size) c3) = w4 at *
  have hl4 : (ys ++ strB c.key).length ≤ 10000107 := by have := HOK.out.key; simp; omega
  clear hWD hCD hC3 hb3 hr3 e23 hh3 hp3 hf3 ho3 hg3 hpD hfD hrD e2D hHeld
  clear hHeld
  have HX2 : Hid (xs ++ cmdB c l = (ys ++ strB c.key) ++ (numsB [l.length] ++ numsB (natsOf l))) := by show _ = _; rw [HX.out]; simp only [List.append_assoc]
  clear HX
  generalize ys ++ strB c.key = zs at *
  go_wp2_with fail
  have hbl := below1' w4 (.cells #[.int .i64 (n : Int)] 3)
  have hat : At (w4.alloc (.cells #[.int .i64 (n : Int)] 3)) (some ⟨w4.heap.size, 0, none⟩) (ints (natsV [n])) := at_new w4 #[.int .i64 (n : Int)] 3 (0, 0)
  have hlt4 := hW4.lt
  have hA34 : ∀ k, A3 = some ⟨k, 0, none⟩ → k < w4.heap.size := by
    intro k he
    rcases own_addr hW4.own with ⟨h1, _⟩ | ⟨g, h1, _, _, h2⟩
    · rw [h1] at he; cases he
    · rw [h1] at he; injection he with he; injection he with he; omega
  refine (nums_calls (ns := [n]) (hW4.keep hbl) hat rfl (fun _ b off he => by
    injection he with he
    injection he with he1 he2
    exact ⟨by omega, fun h => by have := hA34 _ h; omega⟩) (fun x hx => by rw [List.mem_singleton] at hx; subst hx; have := HN.out; have := HOK.out.len; omega) (by show _ + 9 * 1 ≤ _; omega)).mono ?_
  rintro e w5 ⟨rfl, A5, c5, hW5, hC5⟩
  have hC45 := (Chg.ofBelow hbl pw A3).trans hC5
  have hbx4 : w.heap.size < w4.heap.size := block_lt e2
  have hr5 := (hC45.block w.heap.size hbx4 (hn0 _ (.inl rfl)).1 hA3b).trans hr4
  have hC05 := hC4.trans hC45
  have hl5 : (zs ++ numsB [n]).length ≤ 10000116 := by
    have := numsB_len (ns := [n]) (fun x hx => by rw [List.mem_singleton] at hx; subst hx; have := HN.out; have := HOK.out.len; omega)
    rw [List.length_append]
    simp only [List.length_cons, List.length_nil] at this
    omega
  clear hbl hat hC5 hW4 hr4 e0 e1 e2 e3 e4 e5 e6 e7 e8 e9 e10 e11 hC4 hC45 hA34
  obtain ⟨e0, e1, e2, e3, e4, e5, e6, e7, e8, e9, e10, e11⟩ := cells_of hr5
  have hno : natsV (natsOf l) = l := natsV_of fun x hx => (HOK.out.nodes x hx).1
  have hAb := HA.out.below hB
  have hA5 : At w5 A (ints (natsV (natsOf l))) := by
    rw [hno]
    by_cases hl0 : 0 < l.length
    · exact hC05.at hAb (HF.out hl0)
    · have : l = [] := List.eq_nil_of_length_eq_zero (by omega)
      rw [this]
      intro i x hx
      cases hx
  have hF5 : 0 < (natsOf l).length → ∀ b off, A = some ⟨b, off, none⟩ → b ≠ pw ∧ A5 ≠ some ⟨b, 0, none⟩ := by
    intro hl0
    have hl1 : 0 < l.length := by simpa [natsOf] using hl0
    exact hC05.far hAb (by simpa using hl1) (HF.out hl1)
  have HLAST := Lib.hid (nums_calls (c := d) (n := n) (ns := natsOf l) hW5 hA5 (by rw [HN.out]; simp [natsOf]) hF5 (fun x hx => by
    obtain ⟨y, hy, rfl⟩ := List.mem_map.1 hx
    have := HOK.out.nodes y hy
    omega) (by have := HOK.out.len; have : (natsOf l).length = l.length := by simp [natsOf]
               omega))
  clear hno hA5 hF5 hAb
  go_wp2_with fail
  refine HLAST.out.mono ?_
  rintro e w6 ⟨rfl, A6, c6, hW6, hC6⟩
  go_wp2_with fail
  go_end0
  refine ⟨rfl, A6, c6, ?_, (Chg.ofBelow hB pw A0).trans (hC05.trans hC6)⟩
  rw [HX2.out, ← HN.out, ← List.append_assoc]
  exact hW6

set_option maxHeartbeats 2000000 in
set_option maxRecDepth 100000 in
theorem fcmd_bad {w : World} (c : Cm) {A : Option Addr} {n d : Nat} {l : List Int} (hA : At w A (ints l)) (hn : n = l.length) (hmax : n ≤ 140737488355328) (hno : mayC c l = false) :
    Calls Try.prog 7 #[.agg #[.int .i64 c.id, .int .i64 c.kind, .string c.key, .int .i64 c.blob, .int .i64 c.other, .int .i64 c.index, .int .i64 c.node, .int .i64 c.size, .int .u32 c.sum, .int .i64 c.k, .int .i64 c.m, .slice A n d]] w fun e w' => e = .returned (.tuple #[.slice none 0 0, .int .i64 1]) ∧ Below w.heap.size w w' := by
  obtain ⟨wb, hwb, hB, hr, hz⟩ := cmd_box w c (.slice A n d)
  have HWB := Lib.hid hwb
  have HMC := Lib.hid (mayCmd_calls (w := wb) c (d := d) (hA.below hB) hn hmax)
  rw [hno] at HMC
  obtain ⟨e0, e1, e2, e3, e4, e5, e6, e7, e8, e9, e10, e11⟩ := cells_of hr
  clear hA hn hmax hno hwb
  go_enter Try.func7, Try.ntmps7
  go_wp2_with fail
  have hwb := HWB.out
  rw [← hwb]
  clear hwb HWB
  refine HMC.out.mono ?_
  rintro e w2 ⟨rfl, hb2⟩
  go_wp2_with fail
  go_ret2
  exact ⟨rfl, hB.trans (hb2.mono hB.size)⟩

/-- A call answers bytes, and an error's number. -/
def RetBy (w : World) (l : List B8) (err : Int) (e : Ending) (w' : World) : Prop :=
  ∃ A cap, e = .returned (.tuple #[.slice A l.length cap, .int .i64 err]) ∧ At w' A (bys l) ∧ Below w.heap.size w w'

set_option maxHeartbeats 2000000 in
set_option maxRecDepth 100000 in
theorem fcmd_good {w : World} (c : Cm) {A : Option Addr} {n d : Nat} {l : List Int} (hA : At w A (ints l)) (hn : n = l.length) (hmax : n ≤ 140737488355328) (hyes : mayC c l = true) (hsum : 0 ≤ c.sum ∧ c.sum < 4294967296) :
    Calls Try.prog 7 #[.agg #[.int .i64 c.id, .int .i64 c.kind, .string c.key, .int .i64 c.blob, .int .i64 c.other, .int .i64 c.index, .int .i64 c.node, .int .i64 c.size, .int .u32 c.sum, .int .i64 c.k, .int .i64 c.m, .slice A n d]] w (RetBy w (cmdB c l) 0) := by
  obtain ⟨wb, hwb, hB, hr, hz⟩ := cmd_box w c (.slice A n d)
  have HWB := Lib.hid hwb
  have HMC := Lib.hid (mayCmd_calls (w := wb) c (d := d) (hA.below hB) hn hmax)
  rw [hyes] at HMC
  obtain ⟨e0, e1, e2, e3, e4, e5, e6, e7, e8, e9, e10, e11⟩ := cells_of hr
  have HA := Lib.hid hA
  have HN := Lib.hid hn
  have HOK := Lib.hid (mayC_ok.1 hyes)
  clear hA hn hmax hyes hwb
  go_enter Try.func7, Try.ntmps7
  go_wp2_with fail
  have hwb := HWB.out
  rw [← hwb]
  clear hwb HWB e0 e1 e2 e3 e4 e5 e6 e7 e8 e9 e10 e11
  refine HMC.out.mono ?_
  rintro e w2 ⟨rfl, hb2⟩
  have hB2 := hB.trans (hb2.mono hB.size)
  have hr2 := (hb2.block w.heap.size (by omega)).trans hr
  have hsz2 : w.heap.size < w2.heap.size := (Array.getElem?_eq_some_iff.1 hr2).1
  have hbw := below1' w2 (.cells #[.slice none 0 0] 54)
  have hr3 := (hbw.block w.heap.size hsz2).trans hr2
  obtain ⟨e0, e1, e2, e3, e4, e5, e6, e7, e8, e9, e10, e11⟩ := cells_of hr3
  have hB3 := hB2.trans (hbw.mono hB2.size)
  have hW3 : WrAt (w2.alloc (.cells #[.slice none 0 0] 54)) w2.heap.size none 0 [] := ⟨heap_alloc_new w2 _, World.ownsRow_nil _ _ _ _⟩
  have HWC := Lib.hid (wcmd_calls (n := n) (d := d) c hW3 (HA.out.below hB3) HN.out (fun hl0 b off he => ⟨by
    obtain ⟨b', off', he', hc⟩ := HA.out.int (k := 0) hl0
    rw [he] at he'
    injection he' with he'
    injection he' with he1 _
    have := block_lt hc
    omega, by intro h; cases h⟩) HOK.out hsum (by simp))
  rw [List.nil_append] at HWC
  have hsz3 : w.heap.size < (w2.alloc (.cells #[.slice none 0 0] 54)).heap.size := by simp; omega
  have hp3 : w2.heap.size ≤ (w2.alloc (.cells #[.slice none 0 0] 54)).heap.size := by simp
  generalize cmdB c l = bs at *
  clear hW3 hbw hr2 hb2 hr HMC hB
  go_wp2_with fail
  generalize w2.alloc (.cells #[.slice none 0 0] 54) = w3 at *
  refine HWC.out.mono ?_
  rintro e w4 ⟨rfl, A4, c4, hW4, hC4⟩
  have hp4 := cell_of_row _ _ 0 _ _ (0, 0) hW4.hd
  simp only [List.getElem?_toArray, List.getElem?_cons_zero] at hp4
  have hB4 := hB3.trans ((hC4.below (fun k h => by cases h) hp3).mono (Nat.le_of_lt hsz2))
  have hat := own_at hW4.own
  clear HWC hr3 e0 e1 e2 e3 e4 e5 e6 e7 e8 e9 e10 e11
  go_wp2_with fail
  go_ret2
  exact ⟨A4, c4, rfl, hat, hB4⟩

/-- What Cmd answers. -/
def encC (c : Cm) (l : List Int) : List B8 := if mayC c l = true then cmdB c l else []
def encCE (c : Cm) (l : List Int) : Int := if mayC c l = true then 0 else 1
theorem fcmd_calls {w : World} (c : Cm) {A : Option Addr} {n d : Nat} {l : List Int} (hA : At w A (ints l)) (hn : n = l.length) (hmax : n ≤ 140737488355328) (hsum : 0 ≤ c.sum ∧ c.sum < 4294967296) :
    Calls Try.prog 7 #[.agg #[.int .i64 c.id, .int .i64 c.kind, .string c.key, .int .i64 c.blob, .int .i64 c.other, .int .i64 c.index, .int .i64 c.node, .int .i64 c.size, .int .u32 c.sum, .int .i64 c.k, .int .i64 c.m, .slice A n d]] w (RetBy w (encC c l) (encCE c l)) := by
  unfold encC encCE
  by_cases h : mayC c l = true
  · rw [if_pos h, if_pos h]
    exact fcmd_good c hA hn hmax h hsum
  · rw [if_neg h, if_neg h]
    exact (fcmd_bad c hA hn hmax (by simpa using h)).mono fun e w' ⟨h1, h2⟩ => ⟨none, 0, h1, At.nil _ _, h2⟩

end Go.Proofs.Ytfcacplecapgfaa
