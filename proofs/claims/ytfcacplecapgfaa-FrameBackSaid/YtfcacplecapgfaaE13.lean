/- Contract: frame's reader: nums. -/
import Derived.Test.YtfcacplecapgfaaE12
namespace Go.Proofs.Ytfcacplecapgfaa
open Go.RowKit
set_option linter.unusedVariables false
set_option linter.unusedSimpArgs false

/-- So many numbers at the beginning. -/
def numsR (most : Nat) : Nat → List B8 → Option (List Nat × List B8)
  | 0, l => some ([], l)
  | k + 1, l => (numsR most k l).bind fun p => (numR most p.2).map fun q => (p.1 ++ [q.1], q.2)
theorem numsR_none {most : Nat} {l : List B8} : ∀ {t k : Nat}, t ≤ k → numsR most t l = none → numsR most k l = none
  | t, 0, h, hn => by have : t = 0 := by omega
                      subst this; cases hn
  | t, k + 1, h, hn => by
    by_cases he : t = k + 1
    · rw [← he]; exact hn
    · have := numsR_none (k := k) (by omega) hn
      unfold numsR
      rw [this]; rfl
/-- Cells that numbers are put into. -/
def putN (cs : Array Value) : List Nat → List Nat → Array Value
  | o :: os, m :: ms => putN (cs.setIfInBounds o (.int .i64 (m : Int))) os ms
  | _, _ => cs
theorem putN_snoc {o m : Nat} : ∀ (os ms : List Nat) (cs : Array Value), os.length = ms.length → putN cs (os ++ [o]) (ms ++ [m]) = (putN cs os ms).setIfInBounds o (.int .i64 (m : Int))
  | [], [], cs, _ => rfl
  | a :: os, b :: ms, cs, h => by
    simp only [List.cons_append, putN]
    exact putN_snoc os ms _ (by simpa using h)
  | [], b :: ms, cs, h => by cases h
  | a :: os, [], cs, h => by cases h
theorem size_putN : ∀ (os ms : List Nat) (cs : Array Value), (putN cs os ms).size = cs.size
  | o :: os, m :: ms, cs => by simp only [putN]; rw [size_putN os ms]; simp
  | [], _, cs => rfl
  | _ :: _, [], cs => rfl
/-- Two blocks are changed alone. -/
structure Two (w w' : World) (p g : Nat) : Prop where
  os : w'.os = w.os
  tape : w'.tape = w.tape
  output : w'.output = w.output
  size : w.heap.size ≤ w'.heap.size
  block : ∀ k, k < w.heap.size → k ≠ p → k ≠ g → w'.heap[k]? = w.heap[k]?
theorem Two.refl (w : World) (p g : Nat) : Two w w p g := ⟨rfl, rfl, rfl, Nat.le_refl _, fun _ _ _ _ => rfl⟩
theorem Two.trans {a b c : World} {p g : Nat} (h : Two a b p g) (k : Two b c p g) : Two a c p g :=
  ⟨k.os.trans h.os, k.tape.trans h.tape, k.output.trans h.output, Nat.le_trans h.size k.size, fun i hi h1 h2 => (k.block i (Nat.lt_of_lt_of_le hi h.size) h1 h2).trans (h.block i hi h1 h2)⟩
theorem Two.of1 {w w' : World} {p g : Nat} (h : w.grownBy w' (some p)) : Two w w' p g := ⟨h.os, h.tape, h.output, h.size, fun k hk h1 _ => h.block k hk (fun he => h1 (by injection he))⟩
theorem Two.of2 {w w' : World} {p g : Nat} (h : w.grownBy w' (some g)) : Two w w' p g := ⟨h.os, h.tape, h.output, h.size, fun k hk _ h2 => h.block k hk (fun he => h2 (by injection he))⟩
theorem Two.at {w w' : World} {p g : Nat} {A : Option Addr} {vs : List Value} (h : Two w w' p g) (hA : At w A vs) (hf : ∀ b off, A = some ⟨b, off, none⟩ → b ≠ p ∧ b ≠ g) : At w' A vs := by
  intro i x hx
  obtain ⟨b, off, rfl, hc⟩ := hA i x hx
  obtain ⟨h1, h2⟩ := hf b off rfl
  exact ⟨b, off, rfl, (World.cell?_of_block (h.block b (block_lt hc) h1 h2)).trans hc⟩
theorem FdAt.other {w : World} {pr g c o : Nat} {A : Option Addr} {l : List B8} {v : Value} (h : FdAt w pr A c l) (hg : pr < g) : FdAt (w.setCell ⟨g, o, none⟩ v) pr A c l :=
  ⟨(heap_setCell_other w ⟨g, o, none⟩ pr v (by simp; omega)).trans h.hd, h.at'.grown' (grown_set w g o v) (fun b off he hh => by injection hh with hh; have := h.far b off he; omega), h.far, h.len, h.nil, h.spot⟩

/-- Pointers into a block. -/
def ptrs (g : Nat) (os : List Nat) : List Value := os.map fun o => .pointer (some ⟨g, o, none⟩)
/-- What reading so many numbers leaves. -/
def FNums (w : World) (pr g : Nat) (T : TypeId) (cs : Array Value) (os : List Nat) (o : Option (List Nat × List B8)) (e : Ending) (w' : World) : Prop :=
  Two w w' pr g ∧ ((∃ (ms : List Nat) (r : List B8) (A : Option Addr) (c : Nat), o = some (ms, r) ∧ ms.length = os.length ∧ e = .returned (.tuple #[]) ∧ FdAt w' pr A c r ∧ w'.heap[g]? = some (.cells (putN cs os ms) T (0, 0))) ∨ (o = none ∧ e = .panicked wrongCh))

set_option maxHeartbeats 2000000 in
set_option maxRecDepth 100000 in
theorem fnums_calls {w : World} {pr g c most n d : Nat} {A P : Option Addr} {l : List B8} {T : TypeId} {cs : Array Value} {os : List Nat} (h : FdAt w pr A c l) (hm : most ≤ 1152921504606846976) (hgp : pr < g) (hg : w.heap[g]? = some (.cells cs T (0, 0)))
    (hP : At w P (ptrs g os)) (hfP : ∀ b off, P = some ⟨b, off, none⟩ → b ≠ pr ∧ b ≠ g) (hn : n = os.length) (hos : ∀ o, o ∈ os → o < cs.size) (hmax : os.length ≤ 100) :
    Calls Try.prog 51 #[.pointer (some ⟨pr, 0, none⟩), .int .i64 (most : Int), .slice P n d] w (FNums w pr g T cs os (numsR most os.length l)) := by
  subst hn
  have HP := Lib.hid hP
  have HFP := Lib.hid hfP
  have HOS := Lib.hid hos
  clear hP hfP hos
  go_enter Try.func51, Try.ntmps51
  go_wp2_with fail
  go_loopw [10] (fun s wr => ∃ (t : Nat) (ms : List Nat) (r : List B8) (A' : Option Addr) (c' : Nat), t ≤ os.length ∧ s = .int .i64 ((t : Nat) : Int) ∧ ms.length = t ∧ Hid (numsR most t l = some (ms, r)) ∧ FdAt wr pr A' c' r ∧ wr.heap[g]? = some (.cells (putN cs (os.take t) ms) T (0, 0)) ∧ Two w wr pr g) (fun s _ => os.length - (intOf s).toNat)
  case atStart => exact ⟨0, [], l, A, c, by omega, rfl, rfl, rfl, h, hg, Two.refl _ _ _⟩
  case round =>
    obtain ⟨t, ms, r, A', c', ht, rfl, hms, HR, hF, hg1, hT⟩ := hrel
    rename World => w1
    clear h hg
    by_cases htn : t < os.length
    · have hti : (t : Int) < (os.length : Int) := by omega
      obtain ⟨b, off, rfl, hcx⟩ := (hT.at HP.out HFP.out) t (.pointer (some ⟨g, os[t], none⟩)) (by unfold ptrs; rw [List.getElem?_map, List.getElem?_eq_getElem htn]; rfl)
      have hot := HOS.out os[t] (List.getElem_mem htn)
      have htk : os.take (t + 1) = os.take t ++ [os[t]] := List.take_succ_eq_append_getElem htn
      have HTK := Lib.hid htk
      generalize os[t] = o at *
      have HNU := Lib.hid (fnum_calls hF hm)
      clear htk hF
      go_wp2_with fail
      refine HNU.out.mono ?_
      rintro e w2 ⟨hgr, ⟨n, r2, A2, c2, h1, rfl, hF2⟩ | ⟨h1, rfl⟩⟩
      · have hg2 := (hgr.block g (Array.getElem?_eq_some_iff.1 hg1).1 (by intro he; injection he with he; omega)).trans hg1
        have hsz : (putN cs (os.take t) ms).size = cs.size := size_putN _ _ _
        have hco := cell_of_row _ _ o _ _ (0, 0) hg2
        rw [Array.getElem?_eq_getElem (by rw [hsz]; exact hot)] at hco
        have hfo := frozen_of_row _ _ o _ _ hg2
        have hset := heap_setCell_same w2 g o _ _ (.int .i64 (n : Int)) hg2
        rw [← putN_snoc _ _ _ (by rw [hms, List.length_take]; omega), ← HTK.out] at hset
        have hF3 := hF2.other (o := o) (v := .int .i64 (n : Int)) hgp
        have hT3 := (hT.trans (Two.of1 hgr)).trans (Two.of2 (grown_set w2 g o (.int .i64 (n : Int))))
        have HR2 : Hid (numsR most (t + 1) l = some (ms ++ [n], r2)) := by
          show numsR most (t + 1) l = _
          rw [numsR, HR.out, Option.bind_some, h1]; rfl
        generalize (putN cs (os.take t) ms)[o]'(by rw [hsz]; exact hot) = v at *
        clear h1 hgr hg1 hg2 hF2 hsz hT
        go_wp2_with fail
        exact ⟨⟨t + 1, ms ++ [n], r2, A2, c2, by omega, by go_num, by simp [hms], HR2, hF3, hset, hT3⟩, by simp [intOf]; omega⟩
      · have HN : Hid (numsR most os.length l = none) := numsR_none (t := t + 1) (by omega) (by rw [numsR, HR.out, Option.bind_some, h1]; rfl)
        have hT3 := hT.trans (Two.of1 (g := g) hgr)
        clear h1 hgr hT
        go_wp2_with fail
        exact ⟨rfl, hT3, .inr ⟨HN.out, rfl⟩⟩
    · obtain rfl : os.length = t := by omega
      rw [List.take_length] at hg1
      go_wp2_with fail
      go_end0
      exact ⟨hT, .inl ⟨ms, r, A', c', HR.out, hms, rfl, hF, hg1⟩⟩

end Go.Proofs.Ytfcacplecapgfaa
