/- Contract of the reference's Unwrap. -/
import Derived.Test.YtjninkdhicmniaaF5
import Derived.Deep.RegionLaw
import Derived.Deep.DeepCutAuto
namespace Go.Proofs.Ytjninkdhicmniaa
open Go.RowKit
set_option linter.unusedVariables false
set_option linter.unusedSimpArgs false

theorem blk (A : Option Addr) (n m c : Nat) : (Value.slice A n c).ownBlock = (Value.slice A m c).ownBlock := by cases A <;> rfl
theorem drewHeap (w : World) : w.drew.heap = w.heap := rfl
theorem sz1 (w : World) (o : Obj) : (w.alloc o).drew.heap.size = w.heap.size + 1 := by rw [drewHeap]; simp
theorem sz2 (w : World) (o o' : Obj) : ((w.alloc o).alloc o').drew.heap.size = w.heap.size + 2 := by rw [drewHeap]; simp
theorem heap1 (w : World) (o : Obj) : (w.alloc o).drew.heap[w.heap.size]? = some o := heap_alloc_new w o
theorem heap2a (w : World) (o o' : Obj) : ((w.alloc o).alloc o').drew.heap[w.heap.size]? = some o := (Below.heap_alloc (w.alloc o) o' w.heap.size (by simp)).trans (heap_alloc_new w o)
theorem heap2b (w : World) (o o' : Obj) : ((w.alloc o).alloc o').drew.heap[w.heap.size + 1]? = some o' := by
  have h : ((w.alloc o).alloc o').heap[(w.alloc o).heap.size]? = some o' := heap_alloc_new (w.alloc o) o'
  have e : (w.alloc o).heap.size = w.heap.size + 1 := by simp
  rw [e] at h
  exact h

set_option maxHeartbeats 1000000 in
set_option maxRecDepth 100000 in
theorem unwrapR_calls {w : World} {A : Option Addr} {n c : Nat} {l : List B8} (hA : At w A (bys l)) (hn : n = l.length) (hnc : n ≤ c) (hmax : l.length ≤ 140737488355328) :
    Calls Try.prog 23 #[.slice A n c] w (RetU w (unwrapF l)) := by
  subst hn
  have hA00 := hA
  have U := unwrapAt l
  by_cases h0 : l.length = 0
  · have hl : l = [] := List.eq_nil_of_length_eq_zero h0
    subst hl
    clear hA h0 hmax hnc
    go_enter Try.func23, Try.ntmps23
    go_wp2
    go_ret3
    exact RetU.bad rfl
  obtain ⟨b, off, rfl, hc0⟩ := hA.byte (k := 0) (by omega)
  have hpos : 0 < l.length := by omega
  have hb0 : (0 : Int) < (l.length : Int) := by omega
  rw [Nat.add_zero] at hc0
  by_cases h1 : l[0]'(by omega) = 0xa3#8
  · rw [h1] at hc0
    replace hc0 : w.cell? { block := b, off := off } = some (Value.int IntKind.u8 163) := hc0
    by_cases h2 : l.length < 3
    · have hr := Lib.hid (U.bad2 hpos h1 h2)
      clear U hA
      go_enter Try.func23, Try.ntmps23
      go_wp2
      go_ret3
      exact RetU.bad hr.out
    obtain ⟨b', off', hbo, hc1⟩ := hA.byte (k := 1) (by omega)
    obtain ⟨b'', off'', hbo2, hc2⟩ := hA.byte (k := 2) (by omega)
    simp only [Option.some.injEq, Addr.mk.injEq, and_true] at hbo hbo2
    obtain ⟨rfl, rfl⟩ := hbo
    obtain ⟨rfl, rfl⟩ := hbo2
    have hlt : (l[1]'(by omega)).toNat * 256 + (l[2]'(by omega)).toNat < 65536 := by
      have := (l[1]'(by omega)).isLt
      have := (l[2]'(by omega)).isLt
      omega
    have U3 := Lib.hid (U.bad3 (by omega) h1)
    have U4 := Lib.hid (U.bad4 (by omega) h1)
    have U5 := Lib.hid (U.bad5 (by omega) h1)
    have U6 := Lib.hid (U.good (by omega) h1)
    clear U
    generalize l[1]'(by omega) = x1 at *
    generalize l[2]'(by omega) = x2 at *
    obtain ⟨N, hN⟩ : ∃ N, N = x1.toNat * 256 + x2.toNat := ⟨_, rfl⟩
    rw [← hN] at hlt U3 U4 U5 U6
    have hos : IntKind.i64.wrap ((x1.toNat : Int) * 256 + (x2.toNat : Int)) = (N : Int) := by rw [IntWalk.i64_in _ (by have := x1.isLt; have := x2.isLt; omega)]; omega
    have hos2 : IntKind.i64.wrap ((x1.toNat : Int) * 256) = (x1.toNat : Int) * 256 := IntWalk.i64_in _ (by have := x1.isLt; omega)
    clear hN
    have h2i : (3 : Int) ≤ (l.length : Int) := by omega
    have h2j : (1 : Int) < (l.length : Int) := by omega
    have h2k : (2 : Int) < (l.length : Int) := by omega
    go_enter Try.func23, Try.ntmps23
    go_wp2
    go_quiet (fail)
    have hbq : Below w.heap.size w (w.drewN nq) := belowN nq
    replace hA := hA.below hbq
    clear hc0 hc1 hc2 hos hos2
    generalize w.drewN nq = wq at *
    by_cases hz : N = 0
    · have hz1 : ((N : Int) == 0) = true := by simp [hz]
      go_wp2
      go_ret3
      exact RetU.bad' (U3.out hz) hbq
    have hz1 : ((N : Int) == 0) = false := by simp [hz]
    by_cases h3 : l.length < N + 7
    · have h3i : (l.length : Int) - 7 < N := by omega
      go_wp2
      go_ret3
      exact RetU.bad' (U4.out hz h3) hbq
    have h3i : ¬ (l.length : Int) - 7 < N := by omega
    have HA0 := hA00
    have hA5 : At wq.drew (some { block := b, off := off }) (bys (l.take (N + 3))) := by rw [← bys_take]; exact (hA.take _).below (belowN 1)
    have hA6 : At wq.drew (some { block := b, off := off + (N + 3) }) (bys ((l.drop (N + 3)).take 4)) := by
      have h := ((hA.drop (N + 3) c (by simp; omega)).take 4).below (belowN 1)
      rw [bys_drop, bys_take, cutA_some (by omega)] at h
      exact h
    have E3 := Lib.hid (by rw [List.length_take]; omega : (l.take (N + 3)).length = N + 3)
    have E4 := Lib.hid (by rw [List.length_take, List.length_drop]; omega : ((l.drop (N + 3)).take 4).length = 4)
    have hcv : ∀ w', Below wq.drew.heap.size wq.drew w' → (convert 28 9 (.slice (some ⟨b, off + (N + 3), none⟩) 4 (c - (N + 3)))).run Try.prog w' = .ok (.string (str ((l.drop (N + 3)).take 4))) w' :=
      fun w' hb => conv_str (P := Try.prog) w' 28 9 5 Try.underlying28 Try.underlying5 Try.underlying9 (hA6.below hb) E4.out.symm
    have hcv0 := hcv wq.drew (Below.refl _ _)
    have HCV := Lib.hid hcv
    clear hcv
    have s1 : (7 : Int) + N ≤ c := by omega
    have s2 : (3 : Int) + N ≤ c := by omega
    have s3 : (3 : Int) + N ≤ max (7 + (N : Int)) 0 := by omega
    have s4 : ¬ c = N + 3 := by omega
    have p1 : (0 : Int) ≤ 7 + (N : Int) := by omega
    have p2 : (0 : Int) ≤ 3 + (N : Int) := by omega
    have t3 : (3 + (N : Int)).toNat = N + 3 := by omega
    have t7 : (7 + (N : Int)).toNat = N + 7 := by omega
    have HNC := Lib.hid hnc
    clear hnc h2 h2i h2j h2k
    have hcr := (crc (l.take (N + 3))).isLt
    have wcr : IntKind.i64.wrap ((crc (l.take (N + 3))).toNat : Int) = ((crc (l.take (N + 3))).toNat : Int) := IntWalk.i64_in _ (by omega)
    have w3 : IntKind.i64.wrap (3 + (N : Int)) = 3 + (N : Int) := IntWalk.i64_in _ (by omega)
    have w7 : IntKind.i64.wrap (7 + (N : Int)) = 7 + (N : Int) := IntWalk.i64_in _ (by omega)
    have HCR := Lib.hid hcr
    clear hcr
    by_cases hq : (l.drop (N + 3)).take 4 = be32 (crc (l.take (N + 3)))
    · have hbn : ((str ((l.drop (N + 3)).take 4)).toList == (str (be32 (crc (l.take (N + 3))))).toList) = true := by rw [str_beq, hq]; simp
      have hr := Lib.hid (U6.out N rfl hz (by omega) hq)
      clear U3 U4 U5 U6
      have HQ := Lib.hid hq
      clear hq
      go_wp2
      go_cut [48] (fun s48 wx => s48 = .bool false ∧ Below w.heap.size w wx)
      case first =>
        go_region_with (first
          | (go_at_call 20; refine (sumR_calls hA5 E3.out.symm (by rw [E3.out]; omega)).mono ?_; rintro e w2 ⟨rfl, rfl⟩)
          | (go_at_call 37; refine (big_calls (crc (l.take (N + 3))).toNat 4 rfl rfl (by omega) (by have := HCR.out; omega)).mono ?_; rintro e w2 ⟨A2, c2, rfl, ho2, hb2⟩; rw [length_bigF, be32_big] at ho2; have hcv1 := HCV.out w2 hb2; have hcv2 := conv_str (P := Try.prog) w2 28 9 5 Try.underlying28 Try.underlying5 Try.underlying9 (c := c2) (own_at ho2) (n := 4) rfl))
        all_goals
          go_wp2_with fail
          go_meet
          exact ⟨rfl, (hbq.drew).trans (hb2.mono hbq.size)⟩
      case rest =>
        obtain ⟨rfl, hbx⟩ := hcut
        clear hcv0 HCV w3 w7 wcr HCR s1 s2 s3 s4 p1 p2 t3 t7 hA5 hA6 E3 E4 hbn hbq hA
        have hA := HA0.below hbx
        obtain ⟨w2, rfl⟩ : ∃ w2 : World, w2 = wc := ⟨_, rfl⟩
        go_wp2
        have hnc := HNC.out
        have hA7 : At w2.drew (some { block := b, off := off + 3 }) (bys ((l.drop 3).take N)) := by
          have h := ((hA.drop 3 c (by simp; omega)).take N).below (belowN 1)
          rw [bys_drop, bys_take, cutA_some (by omega)] at h
          exact h
        have hA8 : At w2.drew (cutA (some { block := b, off := off }) (N + 7) c) (bys (l.drop (N + 7))) := by
          have h := (hA.drop (N + 7) c (by simp; omega)).below (belowN 1)
          rw [bys_drop] at h
          exact h
        have E7 := Lib.hid (by rw [List.length_take, List.length_drop]; omega : ((l.drop 3).take N).length = N)
        have E8 := Lib.hid (List.length_drop : (l.drop (N + 7)).length = l.length - (N + 7))
        have q1 : (3 : Int) ≤ 3 + (N : Int) := by omega
        have q2 : (0 : Int) ≤ 7 + (N : Int) := by omega
        have q3 : 7 + (N : Int) ≤ (l.length : Int) := by omega
        have q4 : ¬ c = 3 := by omega
        have q5 : (7 + (N : Int)).toNat = N + 7 := by omega
        have q6 : (3 + (N : Int)).toNat = N + 3 := by omega
        have q7 : (0 : Int) ≤ 3 + (N : Int) := by omega
        have q8 : 3 + (N : Int) ≤ c := by omega
        have q9 : (3 : Int) ≤ max (3 + (N : Int)) 0 := by omega
        have hcA : ∃ A8, At w2.drew A8 (bys (l.drop (N + 7))) ∧ (A8 ≠ none) ∧ (if c = N + 7 then (some { block := b, off := off } : Option Addr) else some { block := b, off := off + (N + 7) }) = A8 := by
          refine ⟨_, ?_, ?_, rfl⟩
          · unfold cutA at hA8; split <;> rename_i hc <;> simp only [hc, if_true, if_false] at hA8
            · exact hA8
            · simpa [Addr.add] using hA8
          · split <;> simp
        obtain ⟨A8, hA9, hne8, he8⟩ := hcA
        have hlb : l.length ≤ 140737488355328 := hmax
        clear hA8 hA HA0 hA00 HNC hnc hmax
        have w3 : IntKind.i64.wrap (3 + (N : Int)) = 3 + (N : Int) := IntWalk.i64_in _ (by omega)
        have w7 : IntKind.i64.wrap (7 + (N : Int)) = 7 + (N : Int) := IntWalk.i64_in _ (by omega)
        have hbx2 : Below w.heap.size w w2.drew := hbx.drew
        have hbw := hbx.size
        go_region_law (first
          | (refine step_app_bytes rfl (.tmp 49) (.tmp 53) rfl w2.heap.size rfl (xs := []) (own_empty (B := w2.heap.size) rfl rfl ?f1 ?f2) rfl (news := (l.drop 3).take N) E7.out (hA7.below ?f3) (by simp) (by omega) ?f4 ?_; (case f1 => (first | exact heap1 _ _ | exact heap2a _ _ _ | exact heap2b _ _ _ | exact heap_alloc_new _ _ | exact (hg5.1.block _ (by first | (rw [sz2]; omega) | (rw [sz1]; omega)) (fun h => by have h' : some _ = some w2.heap.size := h; injection h' with h'; omega)).trans (heap2b _ _ _) | exact (hg6.1.block _ (by first | (rw [sz2]; omega) | (rw [sz1]; omega)) (fun h => by have h' : some _ = some w2.heap.size := h; injection h' with h'; omega)).trans (heap2b _ _ _) | exact (hg5.1.block _ (by first | (rw [sz2]; omega) | (rw [sz1]; omega)) (fun h => by have h' : some _ = some (w2.heap.size + 1) := h; injection h' with h'; omega)).trans (heap2a _ _ _) | exact (hg6.1.block _ (by first | (rw [sz2]; omega) | (rw [sz1]; omega)) (fun h => by have h' : some _ = some (w2.heap.size + 1) := h; injection h' with h'; omega)).trans (heap2a _ _ _))); (case f2 => (first | exact Nat.le_refl _ | omega | (rw [sz2]; omega) | (rw [sz1]; omega) | (simp [drewHeap]; done) | (have h1 := hb5.size; first | (rw [sz2] at h1; omega) | (rw [sz1] at h1; omega) | (simp [drewHeap] at h1 ⊢; omega)) | (have h1 := hb6.size; first | (rw [sz2] at h1; omega) | (rw [sz1] at h1; omega) | (simp [drewHeap] at h1 ⊢; omega)))); (case f3 => (first | exact (Below.refl _ _).alloc (Nat.le_refl _) _ | exact ((Below.refl _ _).alloc (Nat.le_refl _) _).alloc (by simp) _ | exact (((Below.refl _ _).alloc (Nat.le_refl _) _).trans (hb5.mono (by simp))).alloc (by have := hb5.size; simp [drewHeap] at this ⊢; omega) _ | exact ((((Below.refl _ _).alloc (Nat.le_refl _) _).alloc (by simp) _).trans (hb5.mono (by simp))) | exact (((Below.refl _ _).alloc (Nat.le_refl _) _).trans (hb6.mono (by simp))).alloc (by have := hb6.size; simp [drewHeap] at this ⊢; omega) _ | exact ((((Below.refl _ _).alloc (Nat.le_refl _) _).alloc (by simp) _).trans (hb6.mono (by simp))))); (case f4 => (first | exact Nat.le_refl _ | omega | (rw [sz2]; omega) | (rw [sz1]; omega) | (simp [drewHeap]; done) | (have h1 := hb5.size; first | (rw [sz2] at h1; omega) | (rw [sz1] at h1; omega) | (simp [drewHeap] at h1 ⊢; omega)) | (have h1 := hb6.size; first | (rw [sz2] at h1; omega) | (rw [sz1] at h1; omega) | (simp [drewHeap] at h1 ⊢; omega)))); intro A5 c5 w5 ho5 hb5 hg5 _)
          | (refine step_app_bytes rfl (.tmp 55) (.tmp 59) rfl w2.heap.size rfl (xs := []) (own_empty (B := w2.heap.size) rfl rfl ?f1 ?f2) rfl (news := l.drop (N + 7)) E8.out (hA9.below ?f3) (fun h => absurd h hne8) (by omega) ?f4 ?_; (case f1 => (first | exact heap1 _ _ | exact heap2a _ _ _ | exact heap2b _ _ _ | exact heap_alloc_new _ _ | exact (hg5.1.block _ (by first | (rw [sz2]; omega) | (rw [sz1]; omega)) (fun h => by have h' : some _ = some w2.heap.size := h; injection h' with h'; omega)).trans (heap2b _ _ _) | exact (hg6.1.block _ (by first | (rw [sz2]; omega) | (rw [sz1]; omega)) (fun h => by have h' : some _ = some w2.heap.size := h; injection h' with h'; omega)).trans (heap2b _ _ _) | exact (hg5.1.block _ (by first | (rw [sz2]; omega) | (rw [sz1]; omega)) (fun h => by have h' : some _ = some (w2.heap.size + 1) := h; injection h' with h'; omega)).trans (heap2a _ _ _) | exact (hg6.1.block _ (by first | (rw [sz2]; omega) | (rw [sz1]; omega)) (fun h => by have h' : some _ = some (w2.heap.size + 1) := h; injection h' with h'; omega)).trans (heap2a _ _ _))); (case f2 => (first | exact Nat.le_refl _ | omega | (rw [sz2]; omega) | (rw [sz1]; omega) | (simp [drewHeap]; done) | (have h1 := hb5.size; first | (rw [sz2] at h1; omega) | (rw [sz1] at h1; omega) | (simp [drewHeap] at h1 ⊢; omega)) | (have h1 := hb6.size; first | (rw [sz2] at h1; omega) | (rw [sz1] at h1; omega) | (simp [drewHeap] at h1 ⊢; omega)))); (case f3 => (first | exact (Below.refl _ _).alloc (Nat.le_refl _) _ | exact ((Below.refl _ _).alloc (Nat.le_refl _) _).alloc (by simp) _ | exact (((Below.refl _ _).alloc (Nat.le_refl _) _).trans (hb5.mono (by simp))).alloc (by have := hb5.size; simp [drewHeap] at this ⊢; omega) _ | exact ((((Below.refl _ _).alloc (Nat.le_refl _) _).alloc (by simp) _).trans (hb5.mono (by simp))) | exact (((Below.refl _ _).alloc (Nat.le_refl _) _).trans (hb6.mono (by simp))).alloc (by have := hb6.size; simp [drewHeap] at this ⊢; omega) _ | exact ((((Below.refl _ _).alloc (Nat.le_refl _) _).alloc (by simp) _).trans (hb6.mono (by simp))))); (case f4 => (first | exact Nat.le_refl _ | omega | (rw [sz2]; omega) | (rw [sz1]; omega) | (simp [drewHeap]; done) | (have h1 := hb5.size; first | (rw [sz2] at h1; omega) | (rw [sz1] at h1; omega) | (simp [drewHeap] at h1 ⊢; omega)) | (have h1 := hb6.size; first | (rw [sz2] at h1; omega) | (rw [sz1] at h1; omega) | (simp [drewHeap] at h1 ⊢; omega)))); intro A6 c6 w6 ho6 hb6 hg6 _))
        all_goals
          clear w3 w7 q1 q2 q3 q4 q5 q6 q7 q8 q9
          go_wp2
          go_ret3
          rw [hr.out]
          simp only [Nat.zero_add, List.nil_append] at ho5 ho6
          have e1 : N = ((l.drop 3).take N, l.drop (N + 7), (0 : Int)).1.length := by show _ = ((l.drop 3).take N).length; rw [E7.out]
          have e2 : l.length - (N + 7) = ((l.drop 3).take N, l.drop (N + 7), (0 : Int)).2.1.length := by show _ = (l.drop (N + 7)).length; rw [E8.out]
          have b1 := hbx2.alloc hbx2.size (.cells #[] 5)
          first
            | (have b2 := b1.trans (hb5.mono hbw)
               have b3 := b2.alloc b2.size (.cells #[] 5)
               have b4 := b3.trans (hb6.mono hbw)
               refine RetU.mk (B := w2.heap.size) (B2 := w2.heap.size) e1 e2 rfl (own_grown (own_below ho5 ((Below.refl _ _).alloc (Nat.le_refl _) _)) hg6.1 ?hf) hbw ho6 hbw b4
               case hf =>
                 intro b hb hv
                 have hv' : some w5.heap.size = some b := hv
                 injection hv' with hv'
                 have := (ho5.lt b hb).2
                 omega)
            | (have b2 := b1.alloc b1.size (.cells #[] 5)
               have b3 := b2.trans (hb5.mono hbw)
               have b4 := b3.trans (hb6.mono hbw)
               refine RetU.mk (B := w2.heap.size) (B2 := w2.heap.size) e1 e2 rfl (own_grown ho5 hg6.1 ?hf) hbw ho6 hbw b4
               case hf =>
                 intro b hb hv
                 first
                   | (have hv' : some (w2.heap.size + 1) = some b := hv
                      injection hv' with hv'
                      rcases hg5.2 with h | h
                      · have h0 : (Value.slice A5 N c5).ownBlock = some w2.heap.size := (blk A5 N (0 + N) c5).trans h
                        have h' : some w2.heap.size = some b := h0.symm.trans hb
                        injection h' with h'
                        omega
                      · have h0 : (Value.slice A5 N c5).ownBlock = some ((w2.alloc (.cells #[] 5)).alloc (.cells #[] 5)).drew.heap.size := (blk A5 N (0 + N) c5).trans h
                        rw [sz2] at h0
                        have h' := h0.symm.trans hb
                        injection h' with h'
                        omega)
                   | (have hv' : some w2.heap.size = some b := hv
                      injection hv' with hv'
                      rcases hg5.2 with h | h
                      · have h0 : (Value.slice A5 N c5).ownBlock = some (w2.heap.size + 1) := (blk A5 N (0 + N) c5).trans h
                        have h' : some (w2.heap.size + 1) = some b := h0.symm.trans hb
                        injection h' with h'
                        omega
                      · have h0 : (Value.slice A5 N c5).ownBlock = some ((w2.alloc (.cells #[] 5)).alloc (.cells #[] 5)).drew.heap.size := (blk A5 N (0 + N) c5).trans h
                        rw [sz2] at h0
                        have h' := h0.symm.trans hb
                        injection h' with h'
                        omega))
    · have hbn : ((str ((l.drop (N + 3)).take 4)).toList == (str (be32 (crc (l.take (N + 3))))).toList) = false := by rw [str_beq]; simp [hq]
      have hr := Lib.hid (U5.out N rfl hz (by omega) hq)
      clear U3 U4 U5 U6
      have HQ := Lib.hid hq
      clear hq
      go_wp2
      go_cut [48] (fun s48 wx => s48 = .bool true ∧ Below w.heap.size w wx)
      case first =>
        go_region_with (first
          | (go_at_call 20; refine (sumR_calls hA5 E3.out.symm (by rw [E3.out]; omega)).mono ?_; rintro e w2 ⟨rfl, rfl⟩)
          | (go_at_call 37; refine (big_calls (crc (l.take (N + 3))).toNat 4 rfl rfl (by omega) (by have := HCR.out; omega)).mono ?_; rintro e w2 ⟨A2, c2, rfl, ho2, hb2⟩; rw [length_bigF, be32_big] at ho2; have hcv1 := HCV.out w2 hb2; have hcv2 := conv_str (P := Try.prog) w2 28 9 5 Try.underlying28 Try.underlying5 Try.underlying9 (c := c2) (own_at ho2) (n := 4) rfl))
        all_goals
          go_wp2_with fail
          go_meet
          exact ⟨rfl, (hbq.drew).trans (hb2.mono hbq.size)⟩
      case rest =>
        obtain ⟨rfl, hbx⟩ := hcut
        clear hcv0 HCV w3 w7 wcr HCR s1 s2 s3 s4 p1 p2 t3 t7 hA5 hA6 E3 E4 hbn hbq hA
        have hA := HA0.below hbx
        obtain ⟨w2, rfl⟩ : ∃ w2 : World, w2 = wc := ⟨_, rfl⟩
        go_wp2
        go_ret3
        exact RetU.bad' hr.out hbx
  · have hr := Lib.hid (U.bad1 hpos h1)
    have hne := byte_eq_ne _ h1
    clear U hA h1
    go_enter Try.func23, Try.ntmps23
    go_wp2
    go_ret3
    exact RetU.bad hr.out

end Go.Proofs.Ytjninkdhicmniaa
