/- Contract of Spoil: it writes over bytes that lie in memory of their own. -/
import Derived.Test.YtfcacplecapgfaaB
namespace Go.Proofs.Ytfcacplecapgfaa
open Go.RowKit
set_option linter.unusedVariables false
set_option linter.unusedSimpArgs false

/-- Bytes in memory from block B on. -/
def WB (w : World) (B : Nat) (v : Value) : Prop := ∃ n l, w.ownsRow B 5 1 v n (bys l)

theorem bits8g (f : B8 → B8 → B8) (op : BinOp) (hop : ∀ x y, bits op .u8 x y = IntKind.u8.wrap ((f (BitVec.ofInt 8 x) (BitVec.ofInt 8 y)).toNat : Int)) (a b : B8) :
    bits op .u8 (a.toNat : Int) (b.toNat : Int) = ((f a b).toNat : Int) := by
  rw [hop, IntKind.wrap_u8]
  have ha : BitVec.ofInt 8 (a.toNat : Int) = a := by simp
  have hb : BitVec.ofInt 8 (b.toNat : Int) = b := by simp
  rw [ha, hb]
  have := (f a b).isLt
  omega
theorem bits8_xor (a b : B8) : bits .xor .u8 (a.toNat : Int) (b.toNat : Int) = ((a ^^^ b).toNat : Int) := bits8g (· ^^^ ·) .xor (fun _ _ => rfl) a b
theorem bits8_and (a b : B8) : bits .and .u8 (a.toNat : Int) (b.toNat : Int) = ((a &&& b).toNat : Int) := bits8g (· &&& ·) .and (fun _ _ => rfl) a b

theorem own_store_any {w : World} {B e g n j : Nat} {v : Value} {l : List B8} (h : w.ownsRow B e 1 v n (bys l)) (x : B8) :
    ∃ l', (w.setCell ⟨g, j, none⟩ (bv x)).ownsRow B e 1 v n (bys l') := by
  obtain ⟨h1, h2⟩ := h
  rcases h2 with ⟨hv, hn⟩ | ⟨g', cap, cur, hv, hg, hh, hnc, hcm, hs, ht⟩
  · exact ⟨l, h1, .inl ⟨hv, hn⟩⟩
  · by_cases hgg : g' = g
    · subst hgg
      refine ⟨l.set j x, by simpa using h1, .inr ⟨g', cap, cur.setIfInBounds j (bv x), hv, hg, heap_setCell_same w g' j cur e (bv x) hh, hnc, hcm, by simpa using hs, ?_⟩⟩
      rw [Array.toList_setIfInBounds, List.take_set, ht, bys_set]
    · refine ⟨l, h1, .inr ⟨g', cap, cur, hv, hg, ?_, hnc, hcm, hs, ht⟩⟩
      rw [Below.heap_setCell _ _ _ _ hgg]; exact hh

theorem WB.store {w : World} {B g j : Nat} {v : Value} (h : WB w B v) (x : B8) : WB (w.setCell ⟨g, j, none⟩ (bv x)) B v := by
  obtain ⟨n, l, h⟩ := h
  obtain ⟨l', h'⟩ := own_store_any (g := g) (j := j) h x
  exact ⟨n, l', h'⟩

theorem At.setOther {w : World} {A : Option Addr} {vs : List Value} (h : At w A vs) {g : Nat} (j : Nat) (u : Value) (hg : ∀ b off, A = some ⟨b, off, none⟩ → b ≠ g) : At (w.setCell ⟨g, j, none⟩ u) A vs :=
  h.other g (fun k _ hk => Below.heap_setCell _ _ _ _ hk) hg

set_option maxHeartbeats 400000 in
theorem spoil_calls {w : World} {A : Option Addr} {n c : Nat} {vs : List Value} (B : Nat) (hA : At w A vs) (hn : n = vs.length) (hmax : vs.length ≤ 140737488355328) (hW : ∀ v, v ∈ vs → WB w B v)
    (hne : ∀ b off, A = some ⟨b, off, none⟩ → ∀ v, v ∈ vs → v.ownBlock ≠ some b) :
    Calls Try.prog 35 #[.slice A n c] w fun e w' => e = .returned (.tuple #[]) ∧ Below B w w' := by
  subst hn
  go_enter Try.func35, Try.ntmps35
  go_wp2
  go_loopw [7] (fun s7 wr => ∃ k : Nat, k ≤ vs.length ∧ s7 = .int .i64 k ∧ At wr A vs ∧ (∀ v, v ∈ vs → WB wr B v) ∧ Below B w wr) (fun s7 _ => vs.length - (intOf s7).toNat)
  case atStart => exact ⟨0, by omega, rfl, hA, hW, Below.refl _ _⟩
  case round =>
    obtain ⟨k, hk, rfl, hAr, hWr, hbr⟩ := hrel
    clear hA hW
    by_cases hlt : k < vs.length
    · obtain ⟨b, off, hAe, hcell⟩ := hAr k vs[k] (List.getElem?_eq_getElem hlt)
      have hmem : vs[k] ∈ vs := List.getElem_mem hlt
      generalize vs[k] = v at *
      obtain ⟨m, lv, hown⟩ := hWr v hmem
      obtain ⟨Av, cv, rfl, hle⟩ := own_form hown
      have hm : m ≤ 9223372036854775807 := by
        have h1 := hown.2
        rcases h1 with ⟨_, h⟩ | ⟨_, cap, _, _, _, _, h1, h2, _⟩
        · omega
        · unfold maxLen at h2; omega
      subst hAe
      go_wp2
      go_loopw [13] (fun s13 w2 => ∃ j : Nat, j ≤ m ∧ s13 = .int .i64 j ∧ At w2 (some ⟨b, off, none⟩) vs ∧ (∀ v, v ∈ vs → WB w2 B v) ∧ Below B w w2) (fun s13 _ => m - (intOf s13).toNat)
      case atStart => exact ⟨0, by omega, rfl, hAr, hWr, hbr⟩
      case round =>
        obtain ⟨j, hj, rfl, hA2, hW2, hb2⟩ := hrel
        clear hAr hWr hbr hcell hown
        by_cases hjm : j < m
        · obtain ⟨m', l', hown'⟩ := hW2 _ hmem
          have hmm : m' = m := by
            obtain ⟨_, _, he, _⟩ := own_form hown'
            injection he with _ he _
            exact he.symm
          subst hmm
          have hlen : l'.length = m' := by simpa using hown'.1
          have hbyte := At.byte (own_at hown') (k := j) (by omega)
          obtain ⟨g, o, hgo, hc2⟩ := hbyte
          obtain rfl : o = 0 := by
            rcases hown'.2 with ⟨h1, _⟩ | ⟨g', cap, cur, h1, _⟩
            · injection h1 with h1; rw [h1] at hgo; cases hgo
            · injection h1 with h1; rw [h1] at hgo; injection hgo with hgo; injection hgo with h3 h4; exact h4.symm
          subst hgo
          rw [Nat.zero_add] at hc2
          have hfz := hown'.frozenAt j
          have hBg := (own_ge hown').1
          have hneg : ∀ b' off', some (⟨b, off, none⟩ : Addr) = some ⟨b', off', none⟩ → b' ≠ g := fun b' off' he hbg => hne b' off' he _ hmem (by rw [hbg]; rfl)
          have HX := Lib.hid (bits8_xor l'[j] 255#8)
          generalize l'[j] = x at *
          clear hlen
          go_wp2
          have hx : Value.int .u8 (bits .xor .u8 (x.toNat : Int) 255) = bv (x ^^^ 255#8) := int_eq HX.out
          rw [hx]
          exact ⟨⟨j + 1, by omega, by go_num, hA2.setOther j _ hneg, fun v hv => (hW2 v hv).store _, hb2.setCell hBg _⟩, by simp [intOf]; omega⟩
        · go_wp2
          refine ⟨⟨k + 1, by omega, by go_num, hA2, hW2, hb2⟩, by simp [intOf]; omega⟩
    · go_wp2
      go_end0
      exact ⟨rfl, hbr⟩

end Go.Proofs.Ytfcacplecapgfaa
