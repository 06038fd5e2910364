/- Arguments of a law, opened: slices of numbers. -/
import Derived.Test.YtibidlgikecelaaDoorJ
import Derived.Test.YtibidlgikecelaaDoorLK
import Derived.ProofKit
import Derived.OpenShut
import Derived.ChangeOld
import Derived.SizedLaws
import Derived.Deep.Slices
namespace Go.Proofs.YtibidlgikecelaaDoor
open Go.ChangeShapes Go.WideShapes Go.ChangeAt Go.RowKit
set_option linter.unusedVariables false
set_option linter.unusedSimpArgs false
variable {H : Type} {enc : TypeId × Value → H} {W : World}

/-- No part of a datum is greater than the form's own reach. -/
def SmallD (P : Program) (t : TypeId) (d : DataW H) : Prop := ∀ n ∈ d.weights P t, n ≤ reachBytes
theorem smallD_at {P : Program} {ts : List TypeId} {ds : List (DataW H)} {j : Nat} {t : TypeId} {d : DataW H} (h : (DataW.weightsEach P ts ds).all (· ≤ reachBytes) = true) (ht : ts[j]? = some t) (hd : ds[j]? = some d) : SmallD P t d := by
  intro n hn
  simpa using List.all_eq_true.1 h _ (DataW.weights_mem_each ht hd n hn)
theorem SmallD.field {P : Program} {t : TypeId} {fs : Array Field} {parts : List (DataW H)} {j : Nat} {d : DataW H} {f : Field} (h : SmallD P t (.agg parts)) (ht : P.underlying t = some (.struct fs)) (hf : fs[j]? = some f) (hd : parts[j]? = some d) : SmallD P f.type d := by
  intro n hn
  refine h n ?_
  simp only [DataW.weights, ht]
  exact DataW.weights_mem_each (j := j) (by rw [List.getElem?_map]; simpa using by rw [Array.getElem?_toList] at *; simp [hf]) hd n hn

/-- One slice of whole numbers, as its cell reads. -/
theorem core_ints {P : Program} {t e : TypeId} {fuel : Nat} {cs : List Value} {d : DataW H} {p : List MemPlace}
    (ht : P.underlying t = some (.slice e)) (he : P.underlying e = some (.int .i64)) (hc : P.cellsOf e = 1) (hby : P.bytesOf e = 8)
    (hf : DataW.trod enc P W 0 (fun _ => true) true fuel t cs = some (d, p)) (hs : SmallD P t d) :
    ∃ A c l, cs = [.slice A (l : List Int).length c] ∧ At W A (ints l) ∧ l.length ≤ c ∧ (A = none → c = 0) ∧ l.length * 8 ≤ 140737488351232 := by
  rcases open_ints ht he hc hf with ⟨hcs, hx⟩ | ⟨a, n, c, zs, hcs, _, hl, hm, hz, hx, hcell, hwz⟩
  · subst hcs
    exact ⟨none, 0, [], rfl, At.nil _ _, Nat.le_refl _, fun _ => rfl, by decide⟩
  · subst hcs
    simp only [Prod.mk.injEq] at hx
    obtain ⟨rfl, rfl⟩ := hx
    simp only [if_true] at hz
    have hlen : (zs.take n).length = n := by simp; omega
    refine ⟨some a, c, zs.take n, by rw [hlen], ?_, by omega, fun h => (by cases h), ?_⟩
    · intro i x hx
      have hi : i < n := by
        rcases Nat.lt_or_ge i n with h | h
        · exact h
        · rw [List.getElem?_eq_none (by simp [hlen]; omega)] at hx; cases hx
      rw [ints_getElem?, List.getElem?_take, if_pos hi] at hx
      have hc0 := hcell 0 (by omega)
      obtain ⟨b, off, spot⟩ := a
      have hspot : spot = none := by simpa [Addr.add] using World.cell?_spot hc0
      subst hspot
      refine ⟨b, off, rfl, ?_⟩
      rw [← add_plain, hcell i (by omega)]
      rw [List.getElem?_eq_getElem (by omega)] at hx
      simp only [Option.map_some, Option.some.injEq] at hx
      rw [← hx, List.getD_eq_getElem?_getD, List.getElem?_eq_getElem (by omega)]
      rfl
    · have := hs ((lits (H := H) .i64 (zs.take n)).length * 8 + (lits (H := H) .i64 (zs.drop n)).length * 8) (by
        simp only [DataW.weights, ht, hby]
        rw [Nat.add_mul]
        exact List.mem_cons_self ..)
      simp only [lits, List.length_map, hlen, reachBytes] at this
      rw [hlen]
      omega

/-- A slice of whole numbers. -/
theorem open_nums {P : Program} {t e : TypeId} {base : Nat} {v : Value} {d : DataW H} {p : List MemPlace} {ts : List TypeId} {ds : List (DataW H)} {j : Nat}
    (ht : P.underlying t = some (.slice e)) (he : P.underlying e = some (.int .i64)) (hc : P.cellsOf e = 1) (hby : P.bytesOf e = 8) (hok : Value.okWide P W .any base t v)
    (h : DataW.Trod enc P W 0 (fun _ => true) true t v d p) (hsz : (DataW.weightsEach P ts ds).all (· ≤ reachBytes) = true) (hj : ts[j]? = some t) (hd : ds[j]? = some d) :
    ∃ A n c l, v = .slice A n c ∧ n = l.length ∧ At W A (ints l) ∧ (A = none → c = 0) ∧ l.length * 8 ≤ 140737488351232 ∧ n ≤ c := by
  obtain ⟨A, n, c, rfl⟩ := okWide_slice ht hok
  obtain ⟨fuel, hf⟩ := h
  obtain ⟨A', c', l, hcs, hAt, hle, hnil, hmax⟩ := core_ints ht he hc hby hf (smallD_at hsz hj hd)
  simp [Value.cells] at hcs
  obtain ⟨rfl, rfl, rfl⟩ := hcs
  exact ⟨_, _, _, l, rfl, rfl, hAt, hnil, hmax, hle⟩
end Go.Proofs.YtibidlgikecelaaDoor
