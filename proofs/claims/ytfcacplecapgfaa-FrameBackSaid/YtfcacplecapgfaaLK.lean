/- Arguments of a law, opened: bytes. -/
import Derived.Test.YtfcacplecapgfaaV
import Derived.ProofKit
import Derived.OpenShut
import Derived.ChangeOld
import Derived.SizedLaws
namespace Go.Proofs.Ytfcacplecapgfaa
open Go.ChangeShapes Go.WideShapes Go.ChangeAt Go.RowKit
set_option linter.unusedVariables false
set_option linter.unusedSimpArgs false
variable {H : Type} {enc : TypeId × Value → H} {P : Program} {W : World}

theorem bytes_of_ints : ∀ (zs : List Int), (∀ n ∈ zs, (Lit.int .u8 n).wf = true) → ∃ l : List B8, zs.map (Value.int .u8) = bys l
  | [], _ => ⟨[], rfl⟩
  | z :: zs, h => by
    obtain ⟨l, hl⟩ := bytes_of_ints zs fun n hn => h n (List.mem_cons_of_mem _ hn)
    have hz := h z (List.mem_cons_self ..)
    have hb : 0 ≤ z ∧ z ≤ 255 := bounds_u8 hz
    refine ⟨BitVec.ofInt 8 z :: l, ?_⟩
    simp only [List.map_cons, bys_cons, hl]
    congr 1
    unfold bv
    congr 1
    rw [BitVec.toNat_ofInt]
    omega

theorem trod_lt {t : TypeId} {v : Value} {d : DataW H} {p : List MemPlace} (h : DataW.Trod enc P W 0 (fun _ => true) true t v d p) : ∀ x ∈ p, x.block < W.heap.size := by
  intro x hx
  exact (trodAll_mk1 h).lt x (by simpa using hx)

theorem open_bytes {t e : TypeId} {base : Nat} {v : Value} {d : DataW H} {p : List MemPlace} {ts : List TypeId} {ds : List (DataW H)} {j : Nat}
    (ht : P.underlying t = some (.slice e)) (he : P.underlying e = some (.int .u8)) (hc : P.cellsOf e = 1) (hby : P.bytesOf e = 1) (hok : Value.okWide P W .any base t v)
    (h : DataW.Trod enc P W 0 (fun _ => true) true t v d p) (hsz : (DataW.weightsEach P ts ds).all (· ≤ reachBytes) = true) (hj : ts[j]? = some t) (hd : ds[j]? = some d) :
    ∃ A n c l, v = .slice A n c ∧ n = l.length ∧ At W A (bys l) ∧ (A = none → c = 0) ∧ l.length ≤ 140737488351232 ∧ n ≤ c := by
  obtain ⟨A, n, c, rfl⟩ := okWide_slice ht hok
  obtain ⟨fuel, hf⟩ := h
  rcases open_ints ht he hc hf with ⟨hcs, hx⟩ | ⟨a, len', cap', zs, hcs, _, hl, hm, hz, hx, hcell, hwz⟩
  · simp [Value.cells] at hcs
    obtain ⟨rfl, rfl, rfl⟩ := hcs
    exact ⟨none, 0, 0, [], rfl, rfl, At.nil _ _, fun _ => rfl, by decide, Nat.le_refl _⟩
  · simp [Value.cells] at hcs
    obtain ⟨rfl, rfl, rfl⟩ := hcs
    simp only [Prod.mk.injEq] at hx
    obtain ⟨rfl, rfl⟩ := hx
    simp only [if_true] at hz
    obtain ⟨l, hl'⟩ := bytes_of_ints (zs.take n) fun m hm => hwz m (List.mem_of_mem_take hm)
    have hlen : l.length = n := by
      have := congrArg List.length hl'
      simp at this; omega
    refine ⟨some a, n, c, l, rfl, hlen.symm, ?_, fun h => (by cases h), ?_, hl⟩
    · intro i x hx
      rw [← hl', List.getElem?_map, List.getElem?_take] at hx
      have hi : i < n := by
        rcases Nat.lt_or_ge i n with h | h
        · exact h
        · rw [if_neg (by omega)] at hx; simp at hx
      rw [if_pos hi] at hx
      have hc0 := hcell 0 (by omega)
      obtain ⟨b, off, spot⟩ := a
      have hspot : spot = none := by simpa [Addr.add] using World.cell?_spot hc0
      subst hspot
      refine ⟨b, off, rfl, ?_⟩
      rw [← add_plain, hcell i (by omega)]
      rw [List.getElem?_eq_getElem (by omega)] at hx
      simp only [Option.map_some, Option.some.injEq] at hx
      rw [← hx, List.getD_eq_getElem?_getD, List.getElem?_eq_getElem (by omega)]
      rfl
    · have := sized_slice hsz hj hd ht
      rw [hby] at this
      simp only [lits, List.length_map, List.length_take, List.length_drop, reachBytes] at this
      omega

theorem u32_of {a : Int} (h : (Lit.int .u32 a).wf = true) : ∃ y : BitVec 32, a = (y.toNat : Int) := by
  have hb : 0 ≤ a ∧ a ≤ 4294967295 := bounds_u32 h
  refine ⟨BitVec.ofInt 32 a, ?_⟩
  rw [BitVec.toNat_ofInt]
  omega

end Go.Proofs.Ytfcacplecapgfaa
