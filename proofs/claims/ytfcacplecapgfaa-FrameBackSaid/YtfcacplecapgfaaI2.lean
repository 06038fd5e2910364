/- slices.Equal of whole numbers. -/
import Derived.Test.YtfcacplecapgfaaI0
namespace Go.Proofs.Ytfcacplecapgfaa
open Go.RowKit
set_option linter.unusedVariables false
set_option linter.unusedSimpArgs false

theorem take_eq_succ {α : Type} {l m : List α} {k : Nat} (h : l.take k = m.take k) (h1 : k < l.length) (h2 : k < m.length) (he : l[k] = m[k]) : l.take (k + 1) = m.take (k + 1) := by
  rw [List.take_succ_eq_append_getElem h1, List.take_succ_eq_append_getElem h2, h, he]

/-- A call that only reads: it answers v, behind some draws. -/
def RetQ (w : World) (v : Value) (e : Ending) (w' : World) : Prop := e = .returned v ∧ ∃ q, w' = w.drewN q

set_option maxHeartbeats 400000 in
theorem iequal_calls {w : World} {A B : Option Addr} {n c m d : Nat} {l k : List Int} (hA : At w A (ints l)) (hB : At w B (ints k)) (hn : n = l.length) (hm : m = k.length) (hmax : l.length * 8 ≤ 140737488355328) :
    Calls Try.prog 31 #[.slice A n c, .slice B m d] w (RetQ w (.bool (decide (l = k)))) := by
  subst hn hm
  by_cases hlen : l.length = k.length
  · have HL := Lib.hid hlen
    rw [← hlen]
    clear hlen
    go_enter Try.func31, Try.ntmps31
    go_wp2
    go_loopw [13] (fun s wr => ∃ j q, j ≤ l.length ∧ s = .int .i64 ((j : Nat) : Int) ∧ Hid (l.take j = k.take j) ∧ wr = w.drewN q) (fun s _ => l.length - (intOf s).toNat)
    case atStart => exact ⟨0, 0, by omega, rfl, rfl, rfl⟩
    case round =>
      obtain ⟨j, q, hj, rfl, HT, rfl⟩ := hrel
      by_cases hlt : j < l.length
      · have hlt2 : j < k.length := by rw [← HL.out]; exact hlt
        obtain ⟨b1, o1, rfl, hc1⟩ := hA.int hlt
        obtain ⟨b2, o2, rfl, hc2⟩ := hB.int hlt2
        have hji : (j : Int) < (l.length : Int) := by omega
        have hj0 : (0 : Int) ≤ (j : Int) := by omega
        by_cases he : l[j] = k[j]
        · have HS := Lib.hid (take_eq_succ HT.out hlt hlt2 he)
          rw [← he] at hc2
          clear he
          go_wp2_with fail
          go_quiet (fail)
          go_wp2_with fail
          exact ⟨⟨j + 1, q + nq, by omega, by go_num, HS, rfl⟩, by simp [intOf]; omega⟩
        · have hb : (l[j] != k[j]) = true := by simpa using he
          have hb2 : (l[j] == k[j]) = false := by simpa using he
          have HD := Lib.hid (by rw [decide_eq_false]; intro h; subst h; exact he rfl : decide (l = k) = false)
          clear he
          go_wp2_with fail
          go_quiet (fail)
          go_wp2_with fail
          go_ret
          exact ⟨ret_bool HD.out.symm, q + nq, by rw [World.drewN_drewN]⟩
      · have HD := Lib.hid (by
          rw [decide_eq_true]
          have := HT.out
          rwa [List.take_of_length_le (by omega), List.take_of_length_le (by rw [← HL.out]; omega)] at this : decide (l = k) = true)
        go_wp2_with fail
        go_ret
        exact ⟨ret_bool HD.out.symm, _, rfl⟩
  · have HD := Lib.hid (by rw [decide_eq_false]; intro h; subst h; exact hlen rfl : decide (l = k) = false)
    have hb : ((l.length : Int) != (k.length : Int)) = true := by simpa using (by omega : ¬ (l.length : Int) = k.length)
    clear hlen
    go_enter Try.func31, Try.ntmps31
    go_wp2_with fail
    go_ret
    exact ⟨ret_bool HD.out.symm, 0, rfl⟩
end Go.Proofs.Ytfcacplecapgfaa
