/- The law ChainNobody: its walk. -/
import Derived.Test.YtlcchpjficbgmaaC10
namespace Go.Proofs.Ytlcchpjficbgmaa
open Go.RowKit Go.Maps
set_option linter.unusedVariables false
set_option linter.unusedSimpArgs false

/-- A chain that no call made: nil, or a struct of noughts at block p. -/
def Nobody (w : World) (P : Option Addr) : Prop :=
  P = none ∨ ∃ p, P = some ⟨p, 0, none⟩ ∧ w.heap[p]? = some (.cells #[.map none, .int .i64 0] 43 (0, 0))
theorem Nobody.below {w w' : World} {P : Option Addr} (h : Nobody w P) (hb : Below w.heap.size w w') : Nobody w' P := by
  rcases h with h | ⟨p, h, hp⟩
  · exact .inl h
  · exact .inr ⟨p, h, below_blk hp hb⟩

set_option maxRecDepth 100000 in
theorem nnone_calls {w : World} {P : Option Addr} (h : Nobody w P) :
    Calls Try.prog 22 #[.pointer P] w fun e w' => e = .returned (.bool true) ∧ w = w' := by
  rcases h with rfl | ⟨p, rfl, hp⟩
  · go_enter Try.func22, Try.ntmps22
    go_wp2_with fail
    go_ret
    exact ⟨rfl, rfl⟩
  · have h0 := blk_cell hp 0
    simp at h0
    have hn := fun (w : World) => run_eql_map_nil (P := Try.prog) w 41 3 27 none Try.underlying41
    clear hp
    go_enter Try.func22, Try.ntmps22
    go_wp2_with fail
    go_ret
    exact ⟨rfl, rfl⟩

theorem nnext_calls {w : World} {P : Option Addr} (h : Nobody w P) :
    Calls Try.prog 13 #[.pointer P] w fun e w' => e = .returned (.int .i64 0) ∧ w = w' := by
  go_enter Try.func13, Try.ntmps13
  go_wp2_with (go_at_call 22; refine (nnone_calls h).mono ?_; rintro e w' ⟨rfl, rfl⟩)
  go_ret
  exact ⟨rfl, rfl⟩

set_option maxRecDepth 100000 in
set_option maxHeartbeats 800000 in
theorem nget_calls {w : World} {P : Option Addr} {i : Int} (h : Nobody w P) :
    Calls Try.prog 11 #[.pointer P, .int .i64 i] w (RetV w (.tuple #[.agg #[.int .i64 cm0.id, .int .i64 cm0.kind, .string cm0.key, .int .i64 cm0.blob, .int .i64 cm0.other, .int .i64 cm0.index, .int .i64 cm0.node, .int .i64 cm0.size, .int .u32 cm0.sum, .int .i64 cm0.k, .int .i64 cm0.m, .slice none 0 0], .bool false])) := by
  go_enter Try.func11, Try.ntmps11
  go_wp2_with (go_at_call 22; refine (nnone_calls (h.below (below1 _ _))).mono ?_; rintro e w' ⟨rfl, rfl⟩)
  refine bodyPost_ret (results_row2 rfl _ _ w.heap.size 27 #[.int .i64 cm0.id, .int .i64 cm0.kind, .string cm0.key, .int .i64 cm0.blob, .int .i64 cm0.other, .int .i64 cm0.index, .int .i64 cm0.node, .int .i64 cm0.size, .int .u32 cm0.sum, .int .i64 cm0.k, .int .i64 cm0.m, .slice none 0 0] (0, 0) _ rfl (heap_alloc_new _ _) Try.underlying27 rfl (by kernel_rfl)) rfl ?_
  exact ⟨rfl, below1 _ _⟩

set_option maxRecDepth 100000 in
theorem nlearn_calls {w : World} {P : Option Addr} {i : Int} {c : Cm} {A : Option Addr} {n a : Nat} (h : Nobody w P) :
    Calls Try.prog 10 #[.pointer P, .int .i64 i, .agg #[.int .i64 c.id, .int .i64 c.kind, .string c.key, .int .i64 c.blob, .int .i64 c.other, .int .i64 c.index, .int .i64 c.node, .int .i64 c.size, .int .u32 c.sum, .int .i64 c.k, .int .i64 c.m, .slice A n a]] w (RetV w (.int .i64 2)) := by
  go_enter Try.func10, Try.ntmps10
  go_wp2_with (go_at_call 22; refine (nnone_calls (h.below (below1 _ _))).mono ?_; rintro e w' ⟨rfl, rfl⟩)
  go_ret
  exact ⟨rfl, below1 _ _⟩

set_option maxRecDepth 100000 in
set_option maxHeartbeats 800000 in
theorem nfrom_calls {w : World} {P : Option Addr} {i : Int} (h : Nobody w P) :
    Calls Try.prog 14 #[.pointer P, .int .i64 i, .int .i64 5] w (RetV w (.slice none 0 0)) := by
  go_enter Try.func14, Try.ntmps14
  go_wp2_with fail
  all_goals
    go_loopw [7, 8] (fun s7 s8 wr => s7 = .slice none 0 0 ∧ (∃ k : Int, s8 = .int .i64 k) ∧ wr = w) (fun _ _ _ => 0)
    case atStart => exact ⟨rfl, ⟨_, rfl⟩, rfl⟩
    case round =>
      obtain ⟨rfl, ⟨k, rfl⟩, rfl⟩ := hrel
      go_wp2_with (go_at_call 11; refine (nget_calls h).mono ?_; rintro e w1 ⟨rfl, hb⟩)
      go_ret
      exact ⟨rfl, hb.alloc hb.size _⟩

/-- Commands by value that hold nothing are the same. -/
theorem same00 (w : World) : Calls Try.prog 12 #[.agg #[.int .i64 cm0.id, .int .i64 cm0.kind, .string cm0.key, .int .i64 cm0.blob, .int .i64 cm0.other, .int .i64 cm0.index, .int .i64 cm0.node, .int .i64 cm0.size, .int .u32 cm0.sum, .int .i64 cm0.k, .int .i64 cm0.m, .slice none 0 0], .agg #[.int .i64 cm0.id, .int .i64 cm0.kind, .string cm0.key, .int .i64 cm0.blob, .int .i64 cm0.other, .int .i64 cm0.index, .int .i64 cm0.node, .int .i64 cm0.size, .int .u32 cm0.sum, .int .i64 cm0.k, .int .i64 cm0.m, .slice none 0 0]] w (RetV w (.bool true)) := by
  have := psame_calls (w := w) (x := (cm0, [])) (y := (cm0, [])) (A := none) (B := none) (n := 0) (n' := 0) (a := 0) (b := 0) (At.nil _ _) (At.nil _ _) rfl rfl (by simp)
  rwa [sameB_refl] at this

set_option maxHeartbeats 2000000 in
set_option maxRecDepth 100000 in
theorem chainNobody_calls {w : World} {s0 : Int} {x : Cd} {A : Option Addr} {a : Nat} :
    Calls Try.prog 5 #[.int .i64 s0, .agg #[.int .i64 x.1.id, .int .i64 x.1.kind, .string x.1.key, .int .i64 x.1.blob, .int .i64 x.1.other, .int .i64 x.1.index, .int .i64 x.1.node, .int .i64 x.1.size, .int .u32 x.1.sum, .int .i64 x.1.k, .int .i64 x.1.m, .slice A x.2.length a]] w (RetV w (.bool true)) := by
  go_enter Try.func5, Try.ntmps5
  go_wp2_with fail
  have hx3 : (((w.alloc (.cells #[.int .i64 x.1.id, .int .i64 x.1.kind, .string x.1.key, .int .i64 x.1.blob, .int .i64 x.1.other, .int .i64 x.1.index, .int .i64 x.1.node, .int .i64 x.1.size, .int .u32 x.1.sum, .int .i64 x.1.k, .int .i64 x.1.m, .slice A x.2.length a] 27)).alloc (.cells #[.map none, .int .i64 0] 43)).alloc (.cells #[.pointer none, .pointer (some ⟨w.heap.size + 1, 0, none⟩)] 29)).heap[w.heap.size]? = _ := (Below.heap_alloc _ _ _ (by simp; omega)).trans (heap_alloc2_old _ _ _)
  have hp3 : (((w.alloc (.cells #[.int .i64 x.1.id, .int .i64 x.1.kind, .string x.1.key, .int .i64 x.1.blob, .int .i64 x.1.other, .int .i64 x.1.index, .int .i64 x.1.node, .int .i64 x.1.size, .int .u32 x.1.sum, .int .i64 x.1.k, .int .i64 x.1.m, .slice A x.2.length a] 27)).alloc (.cells #[.map none, .int .i64 0] 43)).alloc (.cells #[.pointer none, .pointer (some ⟨w.heap.size + 1, 0, none⟩)] 29)).heap[w.heap.size + 1]? = _ := (Below.heap_alloc _ _ _ (by simp)).trans (heap_alloc2_new _ _ _)
  have hl3 : (((w.alloc (.cells #[.int .i64 x.1.id, .int .i64 x.1.kind, .string x.1.key, .int .i64 x.1.blob, .int .i64 x.1.other, .int .i64 x.1.index, .int .i64 x.1.node, .int .i64 x.1.size, .int .u32 x.1.sum, .int .i64 x.1.k, .int .i64 x.1.m, .slice A x.2.length a] 27)).alloc (.cells #[.map none, .int .i64 0] 43)).alloc (.cells #[.pointer none, .pointer (some ⟨w.heap.size + 1, 0, none⟩)] 29)).heap[w.heap.size + 1 + 1]? = some (.cells #[.pointer none, .pointer (some ⟨w.heap.size + 1, 0, none⟩)] 29 (0, 0)) := by
    have := heap_alloc_new ((w.alloc (.cells #[.int .i64 x.1.id, .int .i64 x.1.kind, .string x.1.key, .int .i64 x.1.blob, .int .i64 x.1.other, .int .i64 x.1.index, .int .i64 x.1.node, .int .i64 x.1.size, .int .u32 x.1.sum, .int .i64 x.1.k, .int .i64 x.1.m, .slice A x.2.length a] 27)).alloc (.cells #[.map none, .int .i64 0] 43)) (.cells #[.pointer none, .pointer (some ⟨w.heap.size + 1, 0, none⟩)] 29)
    rwa [show ((w.alloc (.cells #[.int .i64 x.1.id, .int .i64 x.1.kind, .string x.1.key, .int .i64 x.1.blob, .int .i64 x.1.other, .int .i64 x.1.index, .int .i64 x.1.node, .int .i64 x.1.size, .int .u32 x.1.sum, .int .i64 x.1.k, .int .i64 x.1.m, .slice A x.2.length a] 27)).alloc (.cells #[.map none, .int .i64 0] 43)).heap.size = w.heap.size + 1 + 1 by simp] at this
  have hb3 : Below w.heap.size w (((w.alloc (.cells #[.int .i64 x.1.id, .int .i64 x.1.kind, .string x.1.key, .int .i64 x.1.blob, .int .i64 x.1.other, .int .i64 x.1.index, .int .i64 x.1.node, .int .i64 x.1.size, .int .u32 x.1.sum, .int .i64 x.1.k, .int .i64 x.1.m, .slice A x.2.length a] 27)).alloc (.cells #[.map none, .int .i64 0] 43)).alloc (.cells #[.pointer none, .pointer (some ⟨w.heap.size + 1, 0, none⟩)] 29)) := (below2 _ _ _).alloc (by simp; omega) _
  generalize ((w.alloc (.cells #[.int .i64 x.1.id, .int .i64 x.1.kind, .string x.1.key, .int .i64 x.1.blob, .int .i64 x.1.other, .int .i64 x.1.index, .int .i64 x.1.node, .int .i64 x.1.size, .int .u32 x.1.sum, .int .i64 x.1.k, .int .i64 x.1.m, .slice A x.2.length a] 27)).alloc (.cells #[.map none, .int .i64 0] 43)).alloc (.cells #[.pointer none, .pointer (some ⟨w.heap.size + 1, 0, none⟩)] 29) = W3 at *
  have HX := Lib.hid hx3
  have HP := Lib.hid hp3
  have HL := Lib.hid hl3
  clear hx3 hp3 hl3
  go_loopw [13] (fun s wr => ∃ k : Nat, k ≤ 2 ∧ s = .int .i64 ((k : Nat) : Int) ∧ Below W3.heap.size W3 wr) (fun s _ => 2 - (intOf s).toNat)
  case atStart => exact ⟨0, by omega, rfl, Below.refl _ _⟩
  case round =>
    obtain ⟨k, hk, rfl, hB⟩ := hrel
    by_cases hlt : k < 2
    · obtain ⟨P, hcell, hnob⟩ : ∃ P, wr.cell? ⟨w.heap.size + 1 + 1, k, none⟩ = some (.pointer P) ∧ Nobody wr P := by
        rw [blk_cell (below_blk HL.out hB) k]
        rcases (by omega : k = 0 ∨ k = 1) with rfl | rfl
        · exact ⟨none, rfl, .inl rfl⟩
        · exact ⟨_, rfl, .inr ⟨_, rfl, below_blk HP.out hB⟩⟩
      have hbx := Lib.hid (below_blk HX.out hB)
      have hki : (k : Int) < 2 := by omega
      go_wp2_with (first
        | (go_at_call 11; refine (nget_calls hnob).mono ?_; rintro e w1 ⟨rfl, hb1⟩)
        | (refine load_blk (by rfl) 27 (.tmp 3) rfl w.heap.size rfl 27 #[.int .i64 x.1.id, .int .i64 x.1.kind, .string x.1.key, .int .i64 x.1.blob, .int .i64 x.1.other, .int .i64 x.1.index, .int .i64 x.1.node, .int .i64 x.1.size, .int .u32 x.1.sum, .int .i64 x.1.k, .int .i64 x.1.m, .slice A x.2.length a] (0, 0) _ (below_blk (below_blk hbx.out hb1) (below1 _ _)) Try.underlying27 rfl (by kernel_rfl) ?_)
        | (go_at_call 10; refine (nlearn_calls ((hnob.below hb1).below (below1 _ _))).mono ?_; rintro e w2 ⟨rfl, hb2⟩; have hb2' := hb2; have hn2 := ((hnob.below hb1).below (below1 _ _)).below hb2; have hB2 : Below wr.heap.size wr w2 := (hb1.trans ((below1 _ _).mono hb1.size)).trans (hb2.mono (by simp; have := hb1.size; omega)))
        | (refine load_blk (by rfl) 27 (.tmp 7) rfl w1.heap.size rfl 27 #[.int .i64 cm0.id, .int .i64 cm0.kind, .string cm0.key, .int .i64 cm0.blob, .int .i64 cm0.other, .int .i64 cm0.index, .int .i64 cm0.node, .int .i64 cm0.size, .int .u32 cm0.sum, .int .i64 cm0.k, .int .i64 cm0.m, .slice none 0 0] (0, 0) _ (below_blk (heap_alloc_new _ _) hb2) Try.underlying27 rfl (by kernel_rfl) ?_)
        | (go_at_call 12; refine (same00 _).mono ?_; rintro e w3 ⟨rfl, hb3'⟩; have hn3 := hn2.below hb3')
        | (go_at_call 13; refine (nnext_calls hn3).mono ?_; rintro e w' ⟨rfl, rfl⟩)
        | (go_at_call 14; refine (nfrom_calls hn3).mono ?_; rintro e w4 ⟨rfl, hb4⟩))
      have s1 := hB.size
      have s2 := hB2.size
      have s3 := hb3'.size
      exact ⟨⟨k + 1, by omega, by go_num, ((hB.trans (hB2.mono s1)).trans (hb3'.mono (by omega))).trans (hb4.mono (by omega))⟩, by simp [intOf]; omega⟩
    · go_wp2_with (first
        | (go_at_call 9; refine (new_calls _).mono ?_; rintro e w1 ⟨rfl, hch, hb1⟩)
        | (go_at_call 13; refine (next_calls hch).mono ?_; rintro e w' ⟨rfl, rfl⟩))
      go_ret
      exact ⟨rfl, (hb3.trans (hB.mono hb3.size)).trans (hb1.mono (by have := hB.size; have := hb3.size; omega))⟩

end Go.Proofs.Ytlcchpjficbgmaa
