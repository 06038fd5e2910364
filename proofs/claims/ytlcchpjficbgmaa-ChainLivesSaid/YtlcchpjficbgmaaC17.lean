/- The document's chain: SameCmd, Learn. -/
import Derived.Test.YtlcchpjficbgmaaC15
namespace Go.Proofs.Ytlcchpjficbgmaa
open Go.RowKit Go.Maps
set_option linter.unusedVariables false
set_option linter.unusedSimpArgs false

set_option maxHeartbeats 2000000 in
set_option maxRecDepth 100000 in
theorem rsame_calls {w : World} {x y : Cd} {A B : Option Addr} {n n' a b : Nat} (hA : At w A (ints x.2)) (hB : At w B (ints y.2)) (hn : n = x.2.length) (hn' : n' = y.2.length) (hmax : x.2.length * 8 ≤ 140737488355328) :
    Calls Try.prog 26 #[.agg #[.int .i64 x.1.id, .int .i64 x.1.kind, .string x.1.key, .int .i64 x.1.blob, .int .i64 x.1.other, .int .i64 x.1.index, .int .i64 x.1.node, .int .i64 x.1.size, .int .u32 x.1.sum, .int .i64 x.1.k, .int .i64 x.1.m, .slice A n a], .agg #[.int .i64 y.1.id, .int .i64 y.1.kind, .string y.1.key, .int .i64 y.1.blob, .int .i64 y.1.other, .int .i64 y.1.index, .int .i64 y.1.node, .int .i64 y.1.size, .int .u32 y.1.sum, .int .i64 y.1.k, .int .i64 y.1.m, .slice B n' b]] w (RetV w (.bool (sameB x y))) := by
  obtain ⟨c, l⟩ := x
  obtain ⟨d, k⟩ := y
  have q2 : ∀ w, _ := fun w => eql_code c d w
  subst hn hn'
  by_cases hl : l.length = k.length
  · have HLen := Lib.hid hl
    have hlI : ((l.length : Int) != (k.length : Int)) = false := by simp; omega
    clear hl
    go_enter Try.func26, Try.ntmps26
    go_wp2_with fail
    have hB2 := below2 w (.cells #[.int .i64 c.id, .int .i64 c.kind, .string c.key, .int .i64 c.blob, .int .i64 c.other, .int .i64 c.index, .int .i64 c.node, .int .i64 c.size, .int .u32 c.sum, .int .i64 c.k, .int .i64 c.m, .slice A l.length a] 27) (.cells #[.int .i64 d.id, .int .i64 d.kind, .string d.key, .int .i64 d.blob, .int .i64 d.other, .int .i64 d.index, .int .i64 d.node, .int .i64 d.size, .int .u32 d.sum, .int .i64 d.k, .int .i64 d.m, .slice B k.length b] 27)
    have h1 := Lib.hid (heap_alloc2_old w (.cells #[.int .i64 c.id, .int .i64 c.kind, .string c.key, .int .i64 c.blob, .int .i64 c.other, .int .i64 c.index, .int .i64 c.node, .int .i64 c.size, .int .u32 c.sum, .int .i64 c.k, .int .i64 c.m, .slice A l.length a] 27) (.cells #[.int .i64 d.id, .int .i64 d.kind, .string d.key, .int .i64 d.blob, .int .i64 d.other, .int .i64 d.index, .int .i64 d.node, .int .i64 d.size, .int .u32 d.sum, .int .i64 d.k, .int .i64 d.m, .slice B k.length b] 27))
    have h2 := Lib.hid (heap_alloc2_new w (.cells #[.int .i64 c.id, .int .i64 c.kind, .string c.key, .int .i64 c.blob, .int .i64 c.other, .int .i64 c.index, .int .i64 c.node, .int .i64 c.size, .int .u32 c.sum, .int .i64 c.k, .int .i64 c.m, .slice A l.length a] 27) (.cells #[.int .i64 d.id, .int .i64 d.kind, .string d.key, .int .i64 d.blob, .int .i64 d.other, .int .i64 d.index, .int .i64 d.node, .int .i64 d.size, .int .u32 d.sum, .int .i64 d.k, .int .i64 d.m, .slice B k.length b] 27))
    generalize (w.alloc (.cells #[.int .i64 c.id, .int .i64 c.kind, .string c.key, .int .i64 c.blob, .int .i64 c.other, .int .i64 c.index, .int .i64 c.node, .int .i64 c.size, .int .u32 c.sum, .int .i64 c.k, .int .i64 c.m, .slice A l.length a] 27)).alloc (.cells #[.int .i64 d.id, .int .i64 d.kind, .string d.key, .int .i64 d.blob, .int .i64 d.other, .int .i64 d.index, .int .i64 d.node, .int .i64 d.size, .int .u32 d.sum, .int .i64 d.k, .int .i64 d.m, .slice B k.length b] 27) = W2 at *
    go_loopw [16] (fun s wr => ∃ i : Nat, i ≤ l.length ∧ s = .int .i64 ((i : Nat) : Int) ∧ Below W2.heap.size W2 wr ∧ l.take i = k.take i) (fun s _ => l.length - (intOf s).toNat)
    case atStart => exact ⟨0, by omega, rfl, Below.refl _ _, rfl⟩
    case round =>
      obtain ⟨i, hi, rfl, hBr, hall⟩ := hrel
      have hz2 := hB2.size
      have hBw : Below w.heap.size w wr := hB2.trans (hBr.mono hz2)
      obtain ⟨c0, c1, c2, c3, c4, c5, c6, c7, c8, c9, c10, c11⟩ := cells_of (below_blk h1.out hBr)
      obtain ⟨d0, d1, d2, d3, d4, d5, d6, d7, d8, d9, d10, d11⟩ := cells_of (below_blk h2.out hBr)
      have HALL := Lib.hid hall
      clear hall h1 h2
      by_cases hlt : i < l.length
      · have hlt' : i < k.length := by have := HLen.out; omega
        obtain ⟨b1, o1, rfl⟩ := some_of_at hA (by simp; omega)
        obtain ⟨b2, o2, rfl⟩ := some_of_at hB (by simp; omega)
        have hki : (i : Int) < (l.length : Int) := by omega
        have hki' : (i : Int) < (k.length : Int) := by omega
        have hi0 : (0 : Int) ≤ (i : Int) := by omega
        have hx2 := (hA.below hBw).nth hlt
        have hy2 := (hB.below hBw).nth hlt'
        clear c0 c1 c2 c3 c4 c5 c6 c7 c8 c9 c10 d0 d1 d2 d3 d4 d5 d6 d7 d8 d9 d10 hlI
        by_cases he : l[i] = k[i]
        · have HS := Lib.hid (take_eq_succ HALL.out hlt hlt' he)
          rw [← he] at hy2
          clear he
          go_wp2_with fail
          go_quiet (fail)
          go_wp2_with fail
          exact ⟨⟨i + 1, by omega, by go_num, hBr.trans (belowN _), HS.out⟩, by simp [intOf]; omega⟩
        · have hb : (l[i] != k[i]) = true := by simpa using he
          have hb2 : (l[i] == k[i]) = false := by simpa using he
          have HD := Lib.hid (by
            have : l ≠ k := by intro h; subst h; exact he rfl
            simp [sameB, this] : sameB (c, l) (d, k) = false)
          clear he
          go_wp2_with fail
          go_quiet (fail)
          go_wp2_with fail
          go_ret
          exact ⟨ret_bool HD.out.symm, hBw.trans ((belowN _).mono hBw.size)⟩
      · have HD := Lib.hid (by
          have h1 := HALL.out
          have h2 := HLen.out
          rw [List.take_of_length_le (by omega), List.take_of_length_le (by omega)] at h1
          simp [sameB, h1] : sameB (c, l) (d, k) = (numsB c d && keyB c d && codeB c d))
        clear c11 d11 HALL
        go_wp2_with fail
        all_goals
          go_ret
          exact ⟨ret_bool (by rw [HD.out]; simp [numsB, keyB, *]), hBw⟩
  · have hs : sameB (c, l) (d, k) = false := by
      have : l ≠ k := fun h => hl (by rw [h])
      simp [sameB, this]
    have HS := Lib.hid hs
    have hlI : ((l.length : Int) != (k.length : Int)) = true := by simp; omega
    clear hl hs
    go_enter Try.func26, Try.ntmps26
    go_wp2_with fail
    go_ret
    exact ⟨by rw [HS.out]; rfl, below2 _ _ _⟩

end Go.Proofs.Ytlcchpjficbgmaa
