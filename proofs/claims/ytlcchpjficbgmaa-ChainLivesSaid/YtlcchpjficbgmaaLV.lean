/- Arguments of a law, opened: slices of votes. -/
import Derived.Test.YtlcchpjficbgmaaLC
import Derived.Test.YtlcchpjficbgmaaC13
namespace Go.Proofs.Ytlcchpjficbgmaa
open Go.ChangeShapes Go.WideShapes Go.ChangeAt Go.RowKit Go.Deep
set_option linter.unusedVariables false
set_option linter.unusedSimpArgs false
variable {H : Type} {enc : TypeId × Value → H} {W : World}

theorem core_vote {fuel : Nat} {cs : List Value} {d : DataW H} {p : List MemPlace}
    (hf : DataW.trod enc Try.prog W 0 (fun _ => true) true fuel 53 cs = some (d, p)) (hs : SmallD Try.prog 53 d) : ∃ v, VtIs W cs v ∧ (Lit.int .i64 v.1).wf = true := by
  obtain ⟨xs, n, _, hx, hlen, hxl, hg⟩ := DataW.trod_struct Try.underlying53 hf
  have h14 : Try.prog.cellsOf 53 = 14 := by kernel_rfl
  have c3 : Try.prog.cellsOf 3 = 1 := by kernel_rfl
  have c27 : Try.prog.cellsOf 27 = 12 := by kernel_rfl
  obtain ⟨a0, a1, rest, rfl⟩ : ∃ a0 a1 rest, cs = a0 :: a1 :: rest := by
    match cs, hlen.trans h14 with
    | a0 :: a1 :: rest, _ => exact ⟨a0, a1, rest, rfl⟩
  obtain ⟨x0, x1, x2, rfl⟩ : ∃ x0 x1 x2, xs = [x0, x1, x2] := by
    match xs, hxl with
    | [x0, x1, x2], _ => exact ⟨x0, x1, x2, rfl⟩
  have hr : rest.length = 12 := by have := hlen.trans h14; simpa using this
  have g0 : DataW.trod enc Try.prog W 0 (fun _ => true) true n 3 [a0] = some x0 := by simpa [c3] using hg 0 _ rfl
  have g1 : DataW.trod enc Try.prog W 0 (fun _ => true) true n 3 [a1] = some x1 := by simpa [c3] using hg 1 _ rfl
  have g2 : DataW.trod enc Try.prog W 0 (fun _ => true) true n 27 rest = some x2 := by
    have := hg 2 _ rfl
    have ht : (List.drop 2 (a0 :: a1 :: rest)).take (Try.prog.cellsOf 27) = rest := by rw [c27]; exact List.take_of_length_le (by show rest.length ≤ 12; omega)
    exact ht ▸ this
  obtain ⟨i0, e0, _, w0⟩ := DataW.trod_int Try.underlying3 g0
  obtain ⟨i1, e1, _, _⟩ := DataW.trod_int Try.underlying3 g1
  simp only [Prod.mk.injEq, List.map_cons, List.map_nil] at hx
  obtain ⟨rfl, rfl⟩ := hx
  obtain ⟨x, A, c, rfl, hA, hlc, hnil, hmax, h1, h2⟩ := core_cmd g2 (hs.field (j := 2) Try.underlying53 rfl rfl)
  simp only [List.cons.injEq, and_true] at e0 e1
  subst e0 e1
  exact ⟨(i0, i1, x), ⟨A, c, rfl, hA, hnil, hmax, h1, h2⟩, w0⟩

theorem weights_mem_all' {P : Program} {e : TypeId} : ∀ {l : List (DataW H)} {d : DataW H}, d ∈ l → ∀ n ∈ d.weights P e, n ∈ DataW.weightsAll P e l
  | [], _, h => by cases h
  | x :: r, d, h => by
    intro n hn
    rw [DataW.weightsAll]
    rcases List.mem_cons.1 h with rfl | h
    · exact List.mem_append_left _ hn
    · exact List.mem_append_right _ (weights_mem_all' h n hn)
theorem SmallD.len {P : Program} {t e : TypeId} {l r : List (DataW H)} (h : SmallD P t (.slice l r)) (ht : P.underlying t = some (.slice e)) : (l.length + r.length) * P.bytesOf e ≤ reachBytes := by
  apply h
  simp [DataW.weights, ht]
theorem SmallD.elem {P : Program} {t e : TypeId} {l r : List (DataW H)} (h : SmallD P t (.slice l r)) (ht : P.underlying t = some (.slice e)) {d : DataW H} (hd : d ∈ l) : SmallD P e d := by
  intro n hn
  apply h
  simp only [DataW.weights, ht]
  exact List.mem_cons_of_mem _ (List.mem_append_left _ (weights_mem_all' hd n hn))
theorem votes_range {b off : Nat} : ∀ (len : Nat), (∀ i, i < len → ∃ cs v, VtIs W cs v ∧ (Lit.int .i64 v.1).wf = true ∧ ∀ j, j < 14 → W.cell? ⟨b, off + i * 14 + j, none⟩ = cs[j]?) →
    ∃ vs V, V.length = len ∧ Vts W vs V ∧ At W (some ⟨b, off, none⟩) vs ∧ ∀ v, v ∈ V → (Lit.int .i64 v.1).wf = true
  | 0, _ => ⟨[], [], rfl, rfl, At.nil _ _, fun v hv => (by cases hv)⟩
  | len + 1, h => by
    obtain ⟨vs, V, hl, hV, hA, hW⟩ := votes_range len fun i hi => h i (by omega)
    obtain ⟨cs, v, hv, hw, hc⟩ := h len (by omega)
    refine ⟨vs ++ cs, V ++ [v], by simp [hl], Vts.snoc hv V vs hV, ?_, fun u hu => (List.mem_append.1 hu).elim (hW u) (fun hu => by simp at hu; subst hu; exact hw)⟩
    have hlv := Vts.length V vs hV
    have h14 := hv.len
    intro i x hx
    rcases Nat.lt_or_ge i vs.length with hi | hi
    · rw [List.getElem?_append_left hi] at hx
      exact hA i x hx
    · rw [List.getElem?_append_right hi] at hx
      have hj : i - vs.length < 14 := by
        rcases Nat.lt_or_ge (i - vs.length) 14 with h | h
        · exact h
        · rw [List.getElem?_eq_none (by omega)] at hx; cases hx
      refine ⟨b, off, rfl, ?_⟩
      rw [show off + i = off + len * 14 + (i - vs.length) by omega, hc _ hj, hx]

theorem open_votes_wf {base : Nat} {v : Value} {d : DataW H} {p : List MemPlace} {ts : List TypeId} {ds : List (DataW H)} {j : Nat} (hok : Value.okWide Try.prog W .any base 47 v)
    (h : DataW.Trod enc Try.prog W 0 (fun _ => true) true 47 v d p) (hsz : (DataW.weightsEach Try.prog ts ds).all (· ≤ reachBytes) = true) (hj : ts[j]? = some 47) (hd : ds[j]? = some d) :
    ∃ A n c vs V, v = .slice A n c ∧ n = V.length ∧ At W A vs ∧ Vts W vs V ∧ V.length ≤ 140737488351232 ∧ ∀ v, v ∈ V → (Lit.int .i64 v.1).wf = true := by
  obtain ⟨A, n, c, rfl⟩ := okWide_slice Try.underlying47 hok
  obtain ⟨fuel, hf⟩ := h
  have hs := smallD_at hsz hj hd
  have c53 : Try.prog.cellsOf 53 = 14 := by kernel_rfl
  rcases open_slice Try.underlying47 hf with ⟨hcs, hx⟩ | ⟨a, len, cap, m, fu, D, Pl, hcs, hb, hl, hm, hmm, hx, hi⟩
  · simp [Value.cells] at hcs
    obtain ⟨rfl, rfl, rfl⟩ := hcs
    exact ⟨none, 0, 0, [], [], rfl, rfl, At.nil _ _, rfl, by decide, fun v hv => (by cases hv)⟩
  · have hspare : m = cap := by simpa using hmm
    subst hspare
    simp [Value.cells] at hcs
    obtain ⟨rfl, rfl, rfl⟩ := hcs
    simp only [Prod.mk.injEq] at hx
    obtain ⟨rfl, rfl⟩ := hx
    have hbT : Try.prog.bytesOf 53 = 136 := by kernel_rfl
    have hlen := hs.len Try.underlying47
    rw [hbT] at hlen
    obtain ⟨b, off, spot⟩ := a
    have hcell : ∀ i, i < n → ∃ cs v, VtIs W cs v ∧ (Lit.int .i64 v.1).wf = true ∧ ∀ j, j < 14 → W.cell? (Addr.add ⟨b, off, spot⟩ (i * 14 + j)) = cs[j]? := by
      intro i hi'
      obtain ⟨cs, h1, h2⟩ := hi i (by omega)
      rw [c53] at h1
      obtain ⟨_, hl14, hcs⟩ := World.cells?_some h1
      obtain ⟨v, hv, hw⟩ := core_vote h2 (hs.elem Try.underlying47 (List.mem_map.2 ⟨i, List.mem_range.2 hi', rfl⟩))
      refine ⟨cs, v, hv, hw, fun j hj => ?_⟩
      rw [← hcs j (by omega), add_add]
    by_cases hn0 : n = 0
    · subst hn0
      exact ⟨_, 0, _, [], [], rfl, rfl, At.nil _ _, rfl, by decide, fun v hv => (by cases hv)⟩
    · have hspot : spot = none := by
        obtain ⟨cs, v, hv, _, hc⟩ := hcell 0 (by omega)
        have := hc 0 (by omega)
        have h14 := hv.len
        rw [List.getElem?_eq_getElem (by omega)] at this
        simpa [Addr.add] using World.cell?_spot this
      subst hspot
      obtain ⟨vs, V, hl', hV, hA, hW⟩ := votes_range (W := W) (b := b) (off := off) n fun i hi' => by
        obtain ⟨cs, v, hv, hw, hc⟩ := hcell i hi'
        exact ⟨cs, v, hv, hw, fun j hj => by rw [← hc j hj, add_plain, Nat.add_assoc]⟩
      refine ⟨_, n, _, vs, V, rfl, hl'.symm, hA, hV, ?_, hW⟩
      simp only [List.length_map, List.length_range, reachBytes] at hlen
      omega

theorem open_votes {base : Nat} {v : Value} {d : DataW H} {p : List MemPlace} {ts : List TypeId} {ds : List (DataW H)} {j : Nat} (hok : Value.okWide Try.prog W .any base 47 v)
    (h : DataW.Trod enc Try.prog W 0 (fun _ => true) true 47 v d p) (hsz : (DataW.weightsEach Try.prog ts ds).all (· ≤ reachBytes) = true) (hj : ts[j]? = some 47) (hd : ds[j]? = some d) :
    ∃ A n c vs V, v = .slice A n c ∧ n = V.length ∧ At W A vs ∧ Vts W vs V ∧ V.length ≤ 140737488351232 := by
  obtain ⟨A, n, c, vs, V, h1, h2, h3, h4, h5, _⟩ := open_votes_wf hok h hsz hj hd
  exact ⟨A, n, c, vs, V, h1, h2, h3, h4, h5⟩

end Go.Proofs.Ytlcchpjficbgmaa
