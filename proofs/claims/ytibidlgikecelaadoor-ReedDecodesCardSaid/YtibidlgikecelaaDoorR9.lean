/- Contract: reed.Decode. -/
import Derived.Test.YtibidlgikecelaaDoorR7
namespace Go.Proofs.YtibidlgikecelaaDoor
open Go.RowKit
set_option linter.unusedVariables false
set_option linter.unusedSimpArgs false

set_option maxHeartbeats 400000 in
theorem dec1_calls {w : World} {ts bS oS n cS i : Nat} {v : Value} {vs : List Value} (hts : w.cell? ⟨ts, 0, none⟩ = some (.slice (some ⟨bS, oS, none⟩) n cS)) (hS : At w (some ⟨bS, oS, none⟩) vs) (hi : vs[i]? = some v) (hn : i < n) :
    Calls Tryd.prog 82 #[.int .i64 (i : Int), .pointer (some ⟨ts, 0, none⟩)] w fun e w' => e = .returned v ∧ w = w' := by
  obtain ⟨_, _, he, hc⟩ := hS i v hi
  cases he
  have hii : (i : Int) < (n : Int) := by omega
  clear hi
  go_enter Tryd.func82, Tryd.ntmps82
  go_wp2_with fail
  go_ret
  exact ⟨rfl, rfl⟩

theorem asInts_take (l : List Nat) (k : Nat) : (ints (asInts l)).take k = ints (asInts (l.take k)) := by simp [ints, asInts]
theorem Row.form {w : World} {v : Value} {l : List B8} (h : Row w v l) : ∃ X c, v = .slice X l.length c := by
  obtain ⟨X, c, h, _⟩ := h
  exact ⟨X, c, h⟩

set_option maxHeartbeats 800000 in
set_option maxRecDepth 100000 in
theorem eachI_calls {w : World} {ts bS oS n cS m cl c : Nat} {Al : Option Addr} {vs : List Value} {LL : List (List B8)} {l : List Nat} {Q : Mx} (hts : w.cell? ⟨ts, 0, none⟩ = some (.slice (some ⟨bS, oS, none⟩) n cS))
    (hS : At w (some ⟨bS, oS, none⟩) vs) (hLS : Texts w vs LL) (hn : n = LL.length) (hl : At w Al (ints (asInts l))) (hm : m = l.length) (hm2 : m ≤ 1000)
    (hrow : ∀ (j x : Nat), l[j]? = some x → LL[x]? = some (rowL c (Q x))) :
    Calls Tryd.prog 81 #[.slice Al m cl, .func (.func 82) #[] #[.pointer (some ⟨ts, 0, none⟩)]] w fun e w' => ∃ A cap, e = .returned (.slice A m cap) ∧ MatAt w' A m c (fun i => Q (l.getD i 0)) ∧ Below w.heap.size w w' := by
  subst hm
  have HN := Lib.hid hn
  clear hn
  go_enter Tryd.func81, Tryd.ntmps81
  go_wp2_with fail
  go_loopw [5, 10] (fun s5 s wr => ∃ (i : Nat) (A' : Option Addr) (cap : Nat) (xs : List Value), i ≤ l.length ∧ s = .int .i64 ((i : Nat) : Int) ∧ s5 = .slice A' i cap ∧ wr.ownsRow w.heap.size 22 1 (.slice A' i cap) i xs ∧
    Texts w xs ((l.take i).map fun x => rowL c (Q x)) ∧ Below w.heap.size w wr) (fun _ s _ => l.length - (intOf s).toNat)
  case atStart => exact ⟨0, none, 0, [], by omega, rfl, rfl, World.ownsRow_nil _ _ _ _, by simpa using Texts.nil w, Below.refl _ _⟩
  case round =>
    obtain ⟨i, A', cap, xs', hi, rfl, rfl, ho, hT, hb⟩ := hrel
    by_cases hil : i < l.length
    · have hii : (i : Int) < (l.length : Int) := by omega
      have hx : l[i]? = some l[i] := List.getElem?_eq_getElem hil
      obtain ⟨bl, ol, rfl⟩ := some_of_at hl (by simp; omega)
      have hcl := at_nat (hl.below hb) hx
      have hR := hrow i _ hx
      have htk : l.take (i + 1) = l.take i ++ [l[i]] := List.take_succ_eq_append_getElem hil
      generalize l[i] = x at *
      have hxl : x < LL.length := (List.getElem?_eq_some_iff.1 hR).1
      have hxv : x < vs.length := by rw [hLS.1]; exact hxl
      have hv : vs[x]? = some vs[x] := List.getElem?_eq_getElem hxv
      have hRow := hLS.2 x _ _ hv hR
      have hbx := (hb.cell (p := ⟨ts, 0, none⟩) (block_lt hts)).trans hts
      have HD := Lib.hid (dec1_calls hbx (hS.below hb) hv (by rw [HN.out]; exact hxl))
      obtain ⟨X, cx, hvf⟩ := hRow.form
      rw [hvf] at HD hRow
      have hT2 := hT.snoc hRow
      rw [show (l.take i).map (fun x => rowL c (Q x)) ++ [rowL c (Q x)] = (l.take (i + 1)).map fun x => rowL c (Q x) by rw [htk]; simp] at hT2
      have HT2 := Lib.hid hT2
      have ho2 := own_below ho (below1' wr (.cells #[.slice X (rowL c (Q x)).length cx] 22))
      have hzA : w.heap.size ≤ (wr.alloc (.cells #[.slice X (rowL c (Q x)).length cx] 22)).heap.size := by have := hb.size; simp; omega
      have hbyt : i + 1 ≤ 5864062014634 := by omega
      have hbA := hb.trans ((below1' wr (.cells #[.slice X (rowL c (Q x)).length cx] 22)).mono hb.size)
      have hat := at_lit1 wr (.slice X (rowL c (Q x)).length cx) 22
      clear hx hR hv hvf htk hRow hT hT2
      generalize (rowL c (Q x)).length = ll at *
      go_wp2_with fail
      refine HD.out.mono ?_
      rintro e w' ⟨rfl, rfl⟩
      go_wp2_with (at_builtin; refine app_head rfl (.tmp 14) (.tmp 18) rfl w.heap.size rfl ho2 rfl (news := [.slice X ll cx]) rfl hat (by intro u hu; rw [List.mem_singleton] at hu; subst hu; rfl) (by simp) hbyt hzA ?_; intro A5 c5 w5 ho5 hb5 hg5 hc5)
      exact ⟨⟨i + 1, A5, c5, _, by omega, by go_num, rfl, ho5, HT2.out, hbA.trans hb5⟩, by simp [intOf]; omega⟩
    · obtain rfl : i = l.length := by omega
      go_wp2_with fail
      go_ret
      refine ⟨A', cap, rfl, ⟨xs', own_at ho, ?_⟩, hb⟩
      have h2 := hT.below hb
      rw [List.take_length] at h2
      rwa [show (l.map fun x => rowL c (Q x)) = rowsL l.length c (fun i => Q (l.getD i 0)) from by
        apply List.ext_getElem?
        intro k
        by_cases hk : k < l.length
        · rw [rowsL_get hk]; simp [List.getD_eq_getElem?_getD, hk]
        · rw [List.getElem?_eq_none (by simpa using hk), List.getElem?_eq_none (by simpa using hk)]] at h2

end Go.Proofs.YtibidlgikecelaaDoor
