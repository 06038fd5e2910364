/- Contract: the law's square. -/
import Derived.Test.YtibidlgikecelaaDoorWC
namespace Go.Proofs.YtibidlgikecelaaDoor
open Go.RowKit
set_option linter.unusedVariables false
set_option linter.unusedSimpArgs false

/-- A matrix of bytes, n each way. -/
def sqM (l : List B8) (n : Nat) : Mx := fun i k => l.getD (i * n + k) 0#8
/-- A row in the making. -/
def rowAt (k : Nat) (f : Nat → B8) : Nat → B8 := fun j => if j < k then f j else 0#8
theorem rowAt_zero (f : Nat → B8) : rowAt 0 f = fun _ => 0#8 := by funext j; simp [rowAt]
theorem rowAt_step (k : Nat) (f : Nat → B8) : (fun j => if j = k then f k else rowAt k f j) = rowAt (k + 1) f := by
  funext j
  unfold rowAt
  by_cases hj : j = k
  · subst hj; simp
  · have h3 : (j < k + 1) = (j < k) := by simp; omega
    simp [hj, h3]
theorem rowAt_same (k : Nat) (f : Nat → B8) (h : f k = 0#8) : rowAt k f = rowAt (k + 1) f := by
  funext j
  unfold rowAt
  by_cases hj : j = k
  · subst hj; simp [h]
  · have h3 : (j < k + 1) = (j < k) := by simp; omega
    simp [h3]
theorem rowAt_end (c : Nat) (f : Nat → B8) : rowL c (rowAt c f) = rowL c f := rowL_congr fun j hj => by simp [rowAt, hj]
theorem RowB.put {w : World} {k c : Nat} {f : Nat → B8} (h : RowB w k (rowL c f)) (j : Nat) (x : B8) : RowB (w.setCell ⟨k, j, none⟩ (bv x)) k (rowL c (fun i => if i = j then x else f i)) := by
  rw [← rowL_set]; exact h.set j x
theorem at_lit1 (w : World) (v : Value) (t : TypeId) : At (w.alloc (.cells #[v] t)) (some ⟨w.heap.size, 0, none⟩) [v] := at_new w #[v] t (0, 0)

/-- A call answers rows of its own. -/
def RetS (w : World) (r c : Nat) (M : Mx) (e : Ending) (w' : World) : Prop :=
  ∃ A cap blk, e = .returned (.slice A r cap) ∧ OwnG w' w.heap.size A cap blk r c M ∧ Below w.heap.size w w'

set_option maxHeartbeats 800000 in
set_option maxRecDepth 100000 in
theorem square_calls {w : World} {A : Option Addr} {n m c : Nat} {l : List B8} (hA : At w A (bys l)) (hm : m = l.length) (hmax : l.length ≤ 140737488351232) (hn : n ≤ 6) :
    Calls Tryd.prog 23 #[.slice A m c, .int .i64 (n : Int)] w (RetS w n n (sqM l n)) := by
  subst hm
  go_enter Tryd.func23, Tryd.ntmps23
  go_wp2_with fail
  go_loopw [5, 10] (fun s5 s wr => ∃ (i : Nat) (A' : Option Addr) (cap : Nat) (blk : Nat → Nat), i ≤ n ∧ s = .int .i64 ((i : Nat) : Int) ∧ s5 = .slice A' i cap ∧ OwnG wr w.heap.size A' cap blk i n (sqM l n) ∧ Below w.heap.size w wr) (fun _ s _ => n - (intOf s).toNat)
  case atStart => exact ⟨0, none, 0, fun _ => 0, by omega, rfl, rfl, OwnG.nil _ _ _ _ _, Below.refl _ _⟩
  case round =>
    obtain ⟨i, A', cap, blk, hi, rfl, rfl, hG, hb⟩ := hrel
    rename World => w1
    by_cases hin : i < n
    · have hii : (i : Int) < (n : Int) := by omega
      have hmul : (i : Int) * (n : Int) = ((i * n : Nat) : Int) := by simp
      have hmul2 : i * n ≤ 36 := by
        have := Nat.mul_le_mul (by omega : i ≤ 6) hn
        omega
      generalize hin2 : i * n = p at *
      have HP := Lib.hid hin2
      clear hin2
      have HG := Lib.hid hG
      clear hG
      go_wp2_with (refine make_row rfl (.tmp 13) (.tmp 13) rfl n rfl rfl rfl rfl (by omega) ?_; intro w2 hr2 hb2 hs2)
      have HR := Lib.hid hr2
      clear hr2
      have hz := hb2.size
      go_loopw [17] (fun s wr => ∃ k : Nat, k ≤ n ∧ s = .int .i64 ((k : Nat) : Int) ∧ RowB wr w1.heap.size (rowL n (rowAt k (sqM l n i))) ∧ Below w1.heap.size w1 wr) (fun s _ => n - (intOf s).toNat)
      case atStart => exact ⟨0, by omega, rfl, by rw [rowAt_zero]; exact HR.out, hb2⟩
      case round =>
        obtain ⟨k, hk, rfl, hR, hbq⟩ := hrel
        by_cases hkn : k < n
        · have hkk : (k : Int) < (n : Int) := by omega
          by_cases hpl : p + k < l.length
          · have hplb : decide (((p : Nat) : Int) + (k : Int) < (l.length : Int)) = true := decide_eq_true (by omega)
            have hpli : ((p : Nat) : Int) + (k : Int) < (l.length : Int) := by omega
            obtain ⟨b, off, rfl, hc⟩ := hA.byte hpl
            have hcw := ((hb.trans (hbq.mono hb.size)).cell (p := ⟨b, off + (p + k), none⟩) (block_lt hc)).trans hc
            have hx : l[p + k] = sqM l n i k := by unfold sqM; rw [HP.out, List.getD_eq_getElem?_getD, List.getElem?_eq_getElem hpl]; rfl
            rw [hx] at hcw
            have hcs := hR.cell (rowL_get (f := rowAt k (sqM l n i)) hkn)
            have hfs := hR.frozen k
            have HS := Lib.hid (rowAt_step k (sqM l n i))
            generalize hy : sqM l n i k = y at *
            clear hx hc hy
            go_wp2_with fail
            have hst := hR.put k y
            rw [HS.out] at hst
            exact ⟨⟨k + 1, by omega, by go_num, hst, hbq.setCell (Nat.le_refl _) _⟩, by simp [intOf]; omega⟩
          · have hplb : decide (((p : Nat) : Int) + (k : Int) < (l.length : Int)) = false := decide_eq_false (by omega)
            have HS := Lib.hid (rowAt_same k (sqM l n i) (by unfold sqM; rw [HP.out, List.getD_eq_getElem?_getD, List.getElem?_eq_none (by omega)]; rfl))
            go_wp2_with fail
            exact ⟨⟨k + 1, by omega, by go_num, by rw [← HS.out]; exact hR, hbq⟩, by simp [intOf]; omega⟩
        · obtain rfl : k = n := by omega
          rw [rowAt_end] at hR
          have hb5 : Below w1.heap.size w1 (wr.alloc (.cells #[.slice (some ⟨w1.heap.size, 0, none⟩) k k] 22)) := hbq.alloc hbq.size _
          have hG5 := HG.out.below hb5
          have hR5 := hR.below (below1' wr (.cells #[.slice (some ⟨w1.heap.size, 0, none⟩) k k] 22)) hR.lt
          have hne5 : ∀ t, t < i → blk t ≠ w1.heap.size := fun t ht he => by have := (HG.out.row t ht).lt; omega
          have hzw := hb.size
          go_wp2_with (at_builtin; refine app_head rfl (.tmp 40) (.tmp 42) rfl w.heap.size rfl hG5.own rfl (news := [.slice (some ⟨w1.heap.size, 0, none⟩) k k]) rfl (at_lit1 _ _ _) (by intro u hu; rw [List.mem_singleton] at hu; subst hu; rfl) (by simp) (by omega) (by have := hb5.size; omega) ?_; intro A4 c4 w4 ho4 hb4 hg4 hc4)
          have hG6 := hG5.snoc (M := sqM l k) hR5 hzw hne5 ho4 hg4 rfl
          exact ⟨⟨i + 1, A4, c4, _, by omega, by go_num, rfl, hG6, (hb.trans (hb5.mono hzw)).trans hb4⟩, by simp [intOf]; omega⟩
    · obtain rfl : i = n := by omega
      go_wp2_with fail
      go_ret
      exact ⟨_, _, _, rfl, hG, hb⟩

end Go.Proofs.YtibidlgikecelaaDoor
