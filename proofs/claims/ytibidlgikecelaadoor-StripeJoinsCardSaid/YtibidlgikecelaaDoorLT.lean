/- Arguments of a law, opened: slices of byte slices. -/
import Derived.Test.YtibidlgikecelaaDoorLK
import Derived.Deep.Slices
namespace Go.Proofs.YtibidlgikecelaaDoor
open Go.ChangeShapes Go.WideShapes Go.ChangeAt Go.RowKit
set_option linter.unusedVariables false
set_option linter.unusedSimpArgs false
variable {H : Type} {enc : TypeId × Value → H} {P : Program} {W : World}

/-- No part of a datum is greater than the form's own reach. -/
def Small (P : Program) (t : TypeId) (d : DataW H) : Prop := ∀ n ∈ d.weights P t, n ≤ reachBytes
theorem small_at {ts : List TypeId} {ds : List (DataW H)} {j : Nat} {t : TypeId} {d : DataW H} (h : (DataW.weightsEach P ts ds).all (· ≤ reachBytes) = true) (ht : ts[j]? = some t) (hd : ds[j]? = some d) : Small P t d := by
  intro n hn
  simpa using List.all_eq_true.1 h _ (DataW.weights_mem_each ht hd n hn)
theorem weights_mem_all {e : TypeId} : ∀ {l : List (DataW H)} {d : DataW H}, d ∈ l → ∀ n ∈ d.weights P e, n ∈ DataW.weightsAll P e l
  | [], _, h => by cases h
  | x :: r, d, h => by
    intro n hn
    rw [DataW.weightsAll]
    rcases List.mem_cons.1 h with rfl | h
    · exact List.mem_append_left _ hn
    · exact List.mem_append_right _ (weights_mem_all h n hn)
theorem Small.len {t e : TypeId} {l r : List (DataW H)} (h : Small P t (.slice l r)) (ht : P.underlying t = some (.slice e)) : (l.length + r.length) * P.bytesOf e ≤ reachBytes := by
  apply h
  simp [DataW.weights, ht]
theorem Small.elem {t e : TypeId} {l r : List (DataW H)} (h : Small P t (.slice l r)) (ht : P.underlying t = some (.slice e)) {d : DataW H} (hd : d ∈ l) : Small P e d := by
  intro n hn
  apply h
  simp only [DataW.weights, ht]
  exact List.mem_cons_of_mem _ (List.mem_append_left _ (weights_mem_all hd n hn))

/-- One slice of bytes, as its cell reads. -/
theorem core_bytes {t e : TypeId} {fuel : Nat} {v : Value} {d : DataW H} {p : List MemPlace}
    (ht : P.underlying t = some (.slice e)) (he : P.underlying e = some (.int .u8)) (hc : P.cellsOf e = 1) (hby : P.bytesOf e = 1)
    (hf : DataW.trod enc P W 0 (fun _ => true) true fuel t [v] = some (d, p)) (hs : Small P t d) : ∃ l, Row W v l := by
  rcases open_ints ht he hc hf with ⟨hcs, hx⟩ | ⟨a, n, c, zs, hcs, _, hl, hm, hz, hx, hcell, hwz⟩
  · simp at hcs
    subst hcs
    exact ⟨[], none, 0, rfl, At.nil _ _, Nat.le_refl _, fun _ => rfl, by decide⟩
  · simp at hcs
    subst hcs
    simp only [Prod.mk.injEq] at hx
    obtain ⟨rfl, rfl⟩ := hx
    simp only [if_true] at hz
    obtain ⟨l, hl'⟩ := bytes_of_ints (zs.take n) fun m hm => hwz m (List.mem_of_mem_take hm)
    have hlen : l.length = n := by
      have := congrArg List.length hl'
      simp at this; omega
    subst hlen
    refine ⟨l, some a, c, rfl, ?_, hl, fun h => (by cases h), ?_⟩
    · intro i x hx
      rw [← hl', List.getElem?_map, List.getElem?_take] at hx
      have hi : i < l.length := by
        rcases Nat.lt_or_ge i l.length with h | h
        · exact h
        · rw [if_neg (by omega)] at hx; simp at hx
      rw [if_pos hi] at hx
      have hc0 := hcell 0 (by omega)
      obtain ⟨b, off, spot⟩ := a
      have hspot : spot = none := by simpa [Addr.add] using World.cell?_spot hc0
      subst hspot
      refine ⟨b, off, rfl, ?_⟩
      rw [← add_plain, hcell i (by omega)]
      rw [List.getElem?_eq_getElem (by omega)] at hx
      simp only [Option.map_some, Option.some.injEq] at hx
      rw [← hx, List.getD_eq_getElem?_getD, List.getElem?_eq_getElem (by omega)]
      rfl
    · have := hs.len ht
      rw [hby] at this
      simp only [lits, List.length_map, List.length_take, List.length_drop, reachBytes] at this
      omega

/-- A slice of slices of bytes. -/
theorem open_texts {T t e : TypeId} {base : Nat} {v : Value} {d : DataW H} {p : List MemPlace} {ts : List TypeId} {ds : List (DataW H)} {j : Nat}
    (hT : P.underlying T = some (.slice t)) (hcT : P.cellsOf t = 1) (hbT : P.bytesOf t = 24)
    (ht : P.underlying t = some (.slice e)) (he : P.underlying e = some (.int .u8)) (hc : P.cellsOf e = 1) (hby : P.bytesOf e = 1) (hok : Value.okWide P W .any base T v)
    (h : DataW.Trod enc P W 0 (fun _ => true) true T v d p) (hsz : (DataW.weightsEach P ts ds).all (· ≤ reachBytes) = true) (hj : ts[j]? = some T) (hd : ds[j]? = some d) :
    ∃ A n c vs LL, v = .slice A n c ∧ n = vs.length ∧ At W A vs ∧ (A = none → c = 0) ∧ n * 24 ≤ 140737488351232 ∧ n ≤ c ∧ Texts W vs LL := by
  obtain ⟨A, n, c, rfl⟩ := okWide_slice hT hok
  obtain ⟨fuel, hf⟩ := h
  have hs := small_at hsz hj hd
  rcases Go.Deep.open_slice1 hT hcT hf with ⟨hcs, hx⟩ | ⟨a, len, cap, m, fu, V, D, Pl, hcs, _, hl, hm, hmm, hx, hcell⟩
  · simp [Value.cells] at hcs
    obtain ⟨rfl, rfl, rfl⟩ := hcs
    exact ⟨none, 0, 0, [], [], rfl, rfl, At.nil _ _, fun _ => rfl, by decide, Nat.le_refl _, Texts.nil _⟩
  · simp [Value.cells] at hcs
    obtain ⟨rfl, rfl, rfl⟩ := hcs
    simp only [Prod.mk.injEq] at hx
    obtain ⟨rfl, rfl⟩ := hx
    simp only [if_true] at hmm
    subst hmm
    have hrow : ∀ i, i < n → ∃ l, Row W (V i) l := by
      intro i hi
      have h2 := (hcell i (by omega)).2
      refine core_bytes ht he hc hby h2 (hs.elem hT ?_)
      exact List.mem_map.2 ⟨i, List.mem_range.2 hi, rfl⟩
    obtain ⟨L, hL⟩ := Go.Deep.choose_lt hrow
    refine ⟨some a, n, _, (List.range n).map V, (List.range n).map L, rfl, by simp, ?_, fun h => (by cases h), ?_, hl, by simp, ?_⟩
    · intro i x hx
      have hi : i < n := by
        rcases Nat.lt_or_ge i n with h | h
        · exact h
        · rw [List.getElem?_eq_none (by simpa using h)] at hx; cases hx
      have hc0 := (hcell 0 (by omega)).1
      obtain ⟨b, off, spot⟩ := a
      have hspot : spot = none := by simpa [Addr.add] using World.cell?_spot hc0
      subst hspot
      refine ⟨b, off, rfl, ?_⟩
      rw [← add_plain, (hcell i (by omega)).1]
      rw [List.getElem?_map, List.getElem?_range hi] at hx
      simpa using hx
    · have := hs.len hT
      rw [hbT] at this
      simp only [List.length_map, List.length_range, reachBytes] at this
      omega
    · intro i v' l' h1 h2
      have hi : i < n := by
        rcases Nat.lt_or_ge i n with h | h
        · exact h
        · rw [List.getElem?_eq_none (by simpa using h)] at h1; cases h1
      rw [List.getElem?_map, List.getElem?_range hi] at h1 h2
      simp at h1 h2
      subst h1 h2
      exact hL i hi

end Go.Proofs.YtibidlgikecelaaDoor
