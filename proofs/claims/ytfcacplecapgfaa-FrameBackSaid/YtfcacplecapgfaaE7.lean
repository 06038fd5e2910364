/- Contracts: amphoraref05.Num, nums. -/
import Derived.Test.YtfcacplecapgfaaE6
import Derived.Test.YtfcacplecapgfaaF2
namespace Go.Proofs.Ytfcacplecapgfaa
open Go.RowKit
set_option linter.unusedVariables false
set_option linter.unusedSimpArgs false

theorem bigF_leB (n : Nat) : bigF n (leB n).length = (leB n).reverse := by
  induction n using Nat.strongRecOn with
  | _ n ih =>
    by_cases h : n = 0
    · subst h; rw [leB_zero]; rfl
    · rw [leB_pos h, List.length_cons, List.reverse_cons, ← ih (n / 256) (by omega)]
      rfl

set_option maxHeartbeats 800000 in
set_option maxRecDepth 100000 in
theorem num_calls {w : World} (n : Nat) (h : n ≤ 1152921504606846976) : Calls Try.prog 27 #[.int .i64 (n : Int)] w (RetB w (numB n)) := by
  have h8 := leB_len8 (n := n) (by omega)
  go_enter Try.func27, Try.ntmps27
  go_wp2_with fail
  go_loop [3, 4] (fun s3 s4 => ∃ (k y : Nat), y ≤ n ∧ s3 = .int .i64 ((k : Nat) : Int) ∧ s4 = .int .i64 ((y : Nat) : Int) ∧ Hid ((leB n).length = k + (leB y).length)) (fun _ s4 => (intOf s4).toNat)
  case atStart => exact ⟨0, n, Nat.le_refl _, rfl, rfl, (Nat.zero_add _).symm⟩
  case round =>
    obtain ⟨k, y, hy, rfl, rfl, HK⟩ := hrel
    by_cases hy0 : 0 < y
    · have hyi : (0 : Int) < (y : Int) := by omega
      have hk8 : k ≤ 8 := by have := HK.out; omega
      have HK2 : Hid ((leB n).length = (k + 1) + (leB (y / 256)).length) := by
        have h1 := HK.out
        rw [leB_pos (n := y) (by omega), List.length_cons] at h1
        show _ = _
        omega
      go_wp2_with fail
      exact ⟨⟨k + 1, y / 256, by omega, by go_num, congrArg (Value.int .i64) (by omega), HK2⟩, by simp [intOf]; omega⟩
    · obtain rfl : y = 0 := by omega
      have hk : (leB n).length = k := by have := HK.out; rw [leB_zero] at this; simpa using this
      have hk8 : k ≤ 8 := by omega
      have HN : Hid (numB n = BitVec.ofNat 8 k :: bigF n k) := by show _ = _; rw [← hk, bigF_leB]; rfl
      clear hk HK
      have hkw : ((k : Nat) : Int) = ((BitVec.ofNat 8 k).toNat : Int) := by rw [BitVec.toNat_ofNat]; omega
      have hl := World.ownsRow_lit (base := w.heap.size) (e := 5) (size := 1) w #[Value.int IntKind.u8 (k : Int)] 1 (Nat.le_refl _) (by decide) rfl
      have hel : #[Value.int IntKind.u8 (k : Int)].toList = bys [BitVec.ofNat 8 k] := by rw [hkw]; rfl
      rw [hel] at hl
      have hbl := below1' w (.cells #[.int .u8 (k : Int)] 5)
      have HBG := Lib.hid (big_calls (w := w.alloc (.cells #[.int .u8 (k : Int)] 5)) (N := (n : Int)) (W := (k : Int)) n k rfl rfl hk8 (by omega))
      clear hkw hel
      go_wp2_with fail
      refine HBG.out.mono ?_
      rintro e w2 ⟨A2, c2, rfl, ho2, hb2⟩
      have ho3 := own_below hl hb2
      have hB2 := hbl.trans (hb2.mono hbl.size)
      have hz2 : w.heap.size ≤ w2.heap.size := hB2.size
      have hat2 := own_at ho2
      have hnil2 := own_nil ho2
      rw [length_bigF] at *
      go_wp2_with (at_builtin; refine app_bytes rfl (.tmp 14) (.tmp 17) rfl w.heap.size rfl ho3 rfl (by simp) hat2 hnil2 (by omega) hz2 ?_; intro A4 c4 w4 ho4 hb4 hg4 hc4; clear hg4)
      go_ret
      refine ⟨A4, c4, ?_, ?_, hB2.trans hb4⟩
      · rw [HN.out, List.length_cons, length_bigF, Nat.add_comm k 1]; rfl
      · rw [HN.out, List.length_cons, length_bigF, Nat.add_comm k 1]; exact ho4

set_option maxHeartbeats 800000 in
set_option maxRecDepth 100000 in
theorem rnums_calls {w : World} {A : Option Addr} {n c : Nat} {ns : List Nat} (hA : At w A (ints (natsV ns))) (hn : n = ns.length) (hs : ∀ x, x ∈ ns → x ≤ 1152921504606846976) (hmax : ns.length ≤ 1000000) :
    Calls Try.prog 26 #[.slice A n c] w (RetB w (numsB ns)) := by
  subst hn
  have HS := Lib.hid hs
  clear hs
  have hnil : w.ownsRow w.heap.size 5 1 (.slice none (numsB (ns.take 0)).length 0) (numsB (ns.take 0)).length (bys (numsB (ns.take 0))) := World.ownsRow_nil _ _ _ _
  go_enter Try.func26, Try.ntmps26
  go_wp2_with fail
  go_loopw [3, 8] (fun s3 s8 wr => ∃ (t : Nat) (A' : Option Addr) (c' : Nat), t ≤ ns.length ∧ s8 = .int .i64 ((t : Nat) : Int) ∧ s3 = .slice A' (numsB (ns.take t)).length c' ∧ wr.ownsRow w.heap.size 5 1 (.slice A' (numsB (ns.take t)).length c') (numsB (ns.take t)).length (bys (numsB (ns.take t))) ∧ Below w.heap.size w wr) (fun _ s8 _ => ns.length - (intOf s8).toNat)
  case atStart => exact ⟨0, none, 0, by omega, rfl, rfl, hnil, Below.refl _ _⟩
  case round =>
    obtain ⟨t, A', c', ht, rfl, rfl, hO, hb⟩ := hrel
    rename World => w1
    clear hnil
    by_cases htn : t < ns.length
    · have hti : (t : Int) < (ns.length : Int) := by omega
      obtain ⟨b, off, rfl, hcx⟩ := (hA.below hb).int (k := t) (by simpa using htn)
      have hxe : (natsV ns)[t]'(by simpa using htn) = (ns[t] : Int) := by simp [natsV]
      rw [hxe] at hcx
      have hx60 := HS.out ns[t] (List.getElem_mem htn)
      have htk : numsB (ns.take (t + 1)) = numsB (ns.take t) ++ numB ns[t] := by rw [List.take_succ_eq_append_getElem htn, numsB_append]; simp [numsB]
      have HTK := Lib.hid htk
      have hl1 : (numsB (ns.take t)).length ≤ 9000000 := by
        have := numsB_len (ns := ns.take t) (fun n hn => by have := HS.out n (List.mem_of_mem_take hn); omega)
        rw [List.length_take, Nat.min_eq_left (by omega)] at this
        omega
      have hl2 := numB_len (n := ns[t]) (by omega)
      have HNC := Lib.hid (num_calls (w := w1) ns[t] hx60)
      generalize numsB (ns.take t) = ys at *
      generalize ns[t] = x at *
      generalize numB x = zx at *
      clear htk hxe
      go_wp2_with fail
      refine HNC.out.mono ?_
      rintro e w2 ⟨A2, c2, rfl, ho2, hb2⟩
      have hO2 := own_below hO hb2
      have hB2 := hb.trans (hb2.mono hb.size)
      have hz2 := hB2.size
      have hat2 := own_at ho2
      have hnil2 := own_nil ho2
      clear hO hb hb2 ho2
      go_wp2_with (at_builtin; refine app_bytes rfl (.tmp 12) (.tmp 14) rfl w.heap.size rfl hO2 rfl rfl hat2 hnil2 (by omega) hz2 ?_; intro A4 c4 w4 ho4 hb4 hg4 hc4; clear hg4)
      refine ⟨⟨t + 1, A4, c4, by omega, by go_num, ?_, ?_, hB2.trans hb4⟩, by simp [intOf]; omega⟩
      · rw [HTK.out, List.length_append]
      · rw [HTK.out, List.length_append]; exact ho4
    · obtain rfl : ns.length = t := by omega
      rw [List.take_length] at hO
      rw [List.take_length]
      go_wp2_with fail
      go_ret
      exact ⟨A', c', rfl, hO, hb⟩

end Go.Proofs.Ytfcacplecapgfaa
