/- Messages' bytes: plain. -/
import Derived.Test.YtfcacplecapgfaaG5
namespace Go.Proofs.Ytfcacplecapgfaa
open Go.RowKit
set_option linter.unusedVariables false
set_option linter.unusedSimpArgs false

def msgN (m : Mg) : List Nat := [m.h.kind.toNat, m.h.frm.toNat, m.h.to.toNat, m.h.ballot.toNat, m.h.slot.toNat, m.h.blob.toNat, m.h.index.toNat, m.h.epoch.toNat, m.h.id.toNat]
def okB (b : Bool) : B8 := if b = true then 1#8 else 0#8
def voteB (v : Vt) : List B8 := numsB [v.1.toNat, v.2.1.toNat] ++ cmdB v.2.2.1 v.2.2.2
def votesB : List Vt → List B8
  | [] => []
  | v :: V => voteB v ++ votesB V
theorem votesB_append : ∀ (V U : List Vt), votesB (V ++ U) = votesB V ++ votesB U
  | [], U => rfl
  | v :: V, U => by rw [List.cons_append, votesB, votesB, votesB_append V U, List.append_assoc]
/-- A message's bytes. -/
def msgB (m : Mg) : List B8 := numsB (msgN m) ++ [okB m.h.ok] ++ cmdB m.h.cmd m.cn ++ numsB [m.vs.length] ++ votesB m.vs ++ numsB [m.bs.length] ++ m.bs
theorem cmdB_len {c : Cm} {l : List Int} (h : OkC c l) (hs : SumOk c) : (cmdB c l).length ≤ 2500 := by
  have h1 := numsB_len (ns := cmdN c) (fun x hx => by have := cmdN_le h hs.2 x hx; omega)
  have h2 := numsB_len (ns := [l.length]) (fun x hx => by rw [List.mem_singleton] at hx; subst hx; have := h.len; omega)
  have h3 := numsB_len (ns := natsOf l) (fun x hx => by
    obtain ⟨y, hy, rfl⟩ := List.mem_map.1 hx
    have := h.nodes y hy
    omega)
  have h11 : (cmdN c).length = 11 := rfl
  have h12 : (natsOf l).length = l.length := by simp [natsOf]
  have h13 := h.len
  have h14 := h.key
  have h15 : (strB c.key).length = c.key.size := by simp
  unfold cmdB
  simp only [List.length_append, List.length_cons, List.length_nil] at *
  omega
theorem mayV_parts {v : Vt} (h : mayV v = true) : (0 ≤ v.1 ∧ v.1 ≤ 1152921504606846976) ∧ (0 ≤ v.2.1 ∧ v.2.1 ≤ 1152921504606846976) ∧ OkC v.2.2.1 v.2.2.2 := by
  obtain ⟨h1, h2, h3⟩ := mayV_ok.1 h
  exact ⟨fineB_true.1 h1, fineB_true.1 h2, mayC_ok.1 h3⟩
theorem voteB_len {v : Vt} (h : mayV v = true) (hs : SumOk v.2.2.1) : (voteB v).length ≤ 2600 := by
  obtain ⟨h1, h2, h3⟩ := mayV_parts h
  have h4 := cmdB_len h3 hs
  have h5 := numsB_len (ns := [v.1.toNat, v.2.1.toNat]) (fun x hx => by simp only [List.mem_cons, List.not_mem_nil, or_false] at hx; rcases hx with rfl | rfl <;> omega)
  unfold voteB
  simp only [List.length_append, List.length_cons, List.length_nil] at *
  omega
theorem votesB_len : ∀ (V : List Vt), (∀ v, v ∈ V → mayV v = true ∧ SumOk v.2.2.1) → (votesB V).length ≤ V.length * 2600
  | [], _ => by simp [votesB]
  | v :: V, h => by
    have h1 := voteB_len (h v (by simp)).1 (h v (by simp)).2
    have h2 := votesB_len V fun u hu => h u (by simp [hu])
    rw [votesB, List.length_append, List.length_cons]
    omega
theorem Vts.sum {W : World} : ∀ (V : List Vt) (vs : List Value), Vts W vs V → ∀ v, v ∈ V → SumOk v.2.2.1
  | [], _, _, v, hv => by cases hv
  | u :: V, vs, h, v, hv => by
    obtain ⟨cs, rest, rfl, h1, h2⟩ := h
    rcases List.mem_cons.1 hv with rfl | hv
    · obtain ⟨A, d, _, _, _, _, h5⟩ := h1; exact h5
    · exact Vts.sum V rest h2 v hv
theorem msgN_ints {m : Mg} (h : OkM m) : natsV (msgN m) = [m.h.kind, m.h.frm, m.h.to, m.h.ballot, m.h.slot, m.h.blob, m.h.index, m.h.epoch, m.h.id] := by
  unfold natsV msgN
  simp only [List.map_cons, List.map_nil]
  rw [Int.toNat_of_nonneg (by have := h.kind.1; omega), Int.toNat_of_nonneg h.frm.1, Int.toNat_of_nonneg h.to.1, Int.toNat_of_nonneg h.ballot.1, Int.toNat_of_nonneg h.slot.1, Int.toNat_of_nonneg h.blob.1, Int.toNat_of_nonneg h.index.1, Int.toNat_of_nonneg h.epoch.1, Int.toNat_of_nonneg h.id.1]
theorem msgN_le {m : Mg} (h : OkM m) : ∀ x, x ∈ msgN m → x ≤ 1152921504606846976 := by
  intro x hx
  unfold msgN at hx
  simp only [List.mem_cons, List.not_mem_nil, or_false] at hx
  have h1 := h.kind; have h2 := h.frm; have h3 := h.to; have h4 := h.ballot; have h5 := h.slot; have h6 := h.blob; have h7 := h.index; have h8 := h.epoch; have h9 := h.id
  rcases hx with rfl | rfl | rfl | rfl | rfl | rfl | rfl | rfl | rfl <;> omega
theorem WrAt.chg {w1 w2 : World} {pw c : Nat} {A A' : Option Addr} {xs : List B8} (h : WrAt w1 pw A c xs) (hc : Chg w1 w2 pw A A') : Below pw w1 w2 :=
  hc.below (fun k he => by
    rcases own_addr h.own with ⟨h1, _⟩ | ⟨g, h1, _, h3, _⟩
    · rw [h1] at he; cases he
    · rw [h1] at he; injection he with he; injection he with he; omega) (Nat.le_of_lt h.lt)
theorem WrAt.addr {w1 : World} {pw c k : Nat} {A : Option Addr} {xs : List B8} (h : WrAt w1 pw A c xs) (hk : k ≤ pw ∨ w1.heap.size ≤ k) : A ≠ some ⟨k, 0, none⟩ := by
  intro he
  rcases own_addr h.own with ⟨h1, _⟩ | ⟨g, h1, _, h3, h4⟩
  · rw [h1] at he; cases he
  · rw [h1] at he; injection he with he; injection he with he; omega
/-- A call answers bytes of its own, and an error's number. -/
def RetBo (w : World) (l : List B8) (err : Int) (e : Ending) (w' : World) : Prop :=
  ∃ A cap, e = .returned (.tuple #[.slice A l.length cap, .int .i64 err]) ∧ w'.ownsRow w.heap.size 5 1 (.slice A l.length cap) l.length (bys l) ∧ Below w.heap.size w w'
end Go.Proofs.Ytfcacplecapgfaa
