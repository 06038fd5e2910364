/- The law ChainLives: its walk. -/
import Derived.Test.YtlcchpjficbgmaaC18
namespace Go.Proofs.Ytlcchpjficbgmaa
open Go.RowKit Go.Maps
set_option linter.unusedVariables false
set_option linter.unusedSimpArgs false

theorem vcells_of {w : World} {g : Nat} {s b : Int} {c : Cm} {v : Value} {t : TypeId} {fz : Nat × Nat} (h : w.heap[g]? = some (.cells #[.int .i64 s, .int .i64 b, .int .i64 c.id, .int .i64 c.kind, .string c.key, .int .i64 c.blob, .int .i64 c.other, .int .i64 c.index, .int .i64 c.node, .int .i64 c.size, .int .u32 c.sum, .int .i64 c.k, .int .i64 c.m, v] t fz)) : w.cell? ⟨g, 0, none⟩ = some (.int .i64 s) ∧ w.cell? ⟨g, 1, none⟩ = some (.int .i64 b) ∧ w.cell? ⟨g, 2, none⟩ = some (.int .i64 c.id) ∧ w.cell? ⟨g, 3, none⟩ = some (.int .i64 c.kind) ∧ w.cell? ⟨g, 4, none⟩ = some (.string c.key) ∧ w.cell? ⟨g, 5, none⟩ = some (.int .i64 c.blob) ∧ w.cell? ⟨g, 6, none⟩ = some (.int .i64 c.other) ∧ w.cell? ⟨g, 7, none⟩ = some (.int .i64 c.index) ∧ w.cell? ⟨g, 8, none⟩ = some (.int .i64 c.node) ∧ w.cell? ⟨g, 9, none⟩ = some (.int .i64 c.size) ∧ w.cell? ⟨g, 10, none⟩ = some (.int .u32 c.sum) ∧ w.cell? ⟨g, 11, none⟩ = some (.int .i64 c.k) ∧ w.cell? ⟨g, 12, none⟩ = some (.int .i64 c.m) ∧ w.cell? ⟨g, 13, none⟩ = some v :=
  ⟨blk_cell h 0, blk_cell h 1, blk_cell h 2, blk_cell h 3, blk_cell h 4, blk_cell h 5, blk_cell h 6, blk_cell h 7, blk_cell h 8, blk_cell h 9, blk_cell h 10, blk_cell h 11, blk_cell h 12, blk_cell h 13⟩

/-- What a Get answers. -/
def gy : Option Cd → Cd × Bool
  | some x => (x, true)
  | none => ((cm0, []), false)
/-- A Get's answer. -/
def RetY (w : World) (y : Cd) (b : Bool) (e : Ending) (w' : World) : Prop :=
  ∃ A d, e = .returned (.tuple #[.agg #[.int .i64 y.1.id, .int .i64 y.1.kind, .string y.1.key, .int .i64 y.1.blob, .int .i64 y.1.other, .int .i64 y.1.index, .int .i64 y.1.node, .int .i64 y.1.size, .int .u32 y.1.sum, .int .i64 y.1.k, .int .i64 y.1.m, .slice A y.2.length d], .bool b]) ∧ At w' A (ints y.2) ∧ y.2.length * 8 ≤ 140737488351232 ∧ Below w.heap.size w w'
theorem get_y {w : World} {p m : Nat} {S : List (Int × Cd)} {next i : Int} {y : Cd} {b : Bool} (h : ChainAt w p m S next) (hi : (Lit.int .i64 i).wf = true) (hy : gy (look S i) = (y, b)) :
    Calls Try.prog 11 #[.pointer (some ⟨p, 0, none⟩), .int .i64 i] w (RetY w y b) := by
  cases hl : look S i with
  | none =>
    rw [hl] at hy
    cases hy
    exact (get_none h hi hl).mono fun e w' ⟨A, d, h1, h2, h3⟩ => ⟨A, d, h1, At.nil _ _, by decide, h3⟩
  | some x =>
    rw [hl] at hy
    cases hy
    exact (get_some h hi hl).mono fun e w' ⟨A, d, h1, h2, h3⟩ => ⟨A, d, h1, own_at h2, (h.bound hl).1, h3⟩
theorem Links.max {w : World} : ∀ (S : List (Int × Cd)) (vs : List Value), Links w vs S → ∀ e, e ∈ S → e.2.2.length * 8 ≤ 140737488351232
  | [], vs, _, e, he => by cases he
  | y :: S, vs, h, e, he => by
    obtain ⟨A', d', rest, rfl, h1, h2⟩ := h
    rcases List.mem_cons.1 he with rfl | he
    · exact h1.max
    · exact Links.max S rest h2 e he
theorem RChain.max {w : World} {B q : Nat} {S : List (Int × Cd)} (h : RChain w B q S) : ∀ e, e ∈ S → e.2.2.length * 8 ≤ 140737488351232 := by
  obtain ⟨A, n, d, vs, _, _, _, hL, _⟩ := h
  exact Links.max _ _ hL
theorem rget_y {w : World} {B q : Nat} {S : List (Int × Cd)} {i : Int} {y : Cd} {b : Bool} (h : RChain w B q S) (hS : S.length < 1000000) (hy : gy (look S i) = (y, b)) :
    Calls Try.prog 17 #[.pointer (some ⟨q, 0, none⟩), .int .i64 i] w (RetY w y b) := by
  refine (rget_calls (i := i) h hS).mono fun e w' he => ?_
  cases hl : look S i with
  | none =>
    rw [hl] at hy he
    cases hy
    exact ⟨none, 0, he.1, At.nil _ _, by decide, he.2⟩
  | some x =>
    rw [hl] at hy he
    cases hy
    obtain ⟨A, d, h1, h2, h3⟩ := he
    obtain ⟨e', he', _, hx⟩ := look_some' hl
    exact ⟨A, d, h1, own_at h2, by have := h.max e' he'; rwa [hx] at this, h3⟩
theorem RChain.upd {w w' : World} {B q p m : Nat} {S S2 : List (Int × Cd)} {nx : Int} (h : RChain w B q S) (hc : Chain w p m S2 nx) (hu : Upd p m w w') : RChain w' B q S := by
  obtain ⟨A, n, d, vs, h1, h2, h3, h4, h5⟩ := h
  have hp := hc.at'.head
  obtain ⟨f, ⟨D, ⟨es, clock, hmb, _⟩, _⟩, _⟩ := hc.at'.map
  have key : ∀ (k : Nat) (cs : Array Value) (t : TypeId) (fr : Nat × Nat), w.heap[k]? = some (.cells cs t fr) → t ≠ 43 → w'.heap[k]? = some (.cells cs t fr) := by
    intro k cs t fr hk ht
    refine (hu.block k (Array.getElem?_eq_some_iff.1 hk).1 ?_ ?_).trans hk
    · rintro rfl
      rw [hp] at hk
      injection hk with hk
      injection hk with _ h6 _
      exact ht h6.symm
    · rintro rfl
      rw [hmb] at hk
      injection hk with hk
      cases hk
  refine ⟨A, n, d, vs, key _ _ _ _ h1 (by decide), ⟨h2.1, ?_⟩, h3, Links.keep (fun k cs fr hk => by rw [hk]; exact key _ _ _ _ hk (by decide)) _ _ h4, h5⟩
  rcases h2.2 with h | ⟨g, cap, cur, a1, a2, a3, r⟩
  · exact .inl h
  · exact .inr ⟨g, cap, cur, a1, a2, key _ _ _ _ a3 (by decide), r⟩
theorem run_looks (S : List (Int × Cd)) : ∀ (k : Nat) (n : Int) (t : Nat), t < (runL S k n).length → look S (n + t) ≠ none
  | 0, n, t, h => by simp [runL] at h
  | k + 1, n, t, h => by
    rw [runL] at h
    cases hl : look S n with
    | none => rw [hl] at h; simp at h
    | some x =>
      rw [hl] at h
      cases t with
      | zero => simp [hl]
      | succ t =>
        have := run_looks S k (n + 1) t (by simpa using h)
        rwa [show n + 1 + (t : Int) = n + ((t + 1 : Nat) : Int) by omega] at this
theorem run_len_S (S : List (Int × Cd)) (k : Nat) (n : Int) : (runL S k n).length ≤ S.length := run_le _ S n fun t ht => run_looks S k n t ht
theorem learn_len (S : List (Int × Cd)) (i : Int) (x : Cd) : (learnS S i x).length ≤ S.length + 1 := by
  unfold learnS
  split
  · omega
  · cases look S i <;> simp

def LvLoop (w : World) (p m q N : Nat) (s : Value) (wr : World) : Prop :=
  ∃ (k : Nat) (S : List (Int × Cd)) (nx : Int), k ≤ N ∧ k ≤ 31 ∧ s = .int .i64 ((k : Nat) : Int) ∧ Chain wr p m S nx ∧ RChain wr w.heap.size q S ∧ S.length ≤ k ∧ Below w.heap.size w wr

set_option maxHeartbeats 2000000 in
set_option maxRecDepth 100000 in
theorem chainLives_calls {w : World} {A : Option Addr} {n c : Nat} {vs : List Value} {V : List Vt} {most : Int} (hA : At w A vs) (hV : Vts w vs V) (hn : n = V.length) (hmax : V.length ≤ 140737488351232)
    (hwf : ∀ v, v ∈ V → (Lit.int .i64 v.1).wf = true) (hm : (Lit.int .i64 most).wf = true) :
    Calls Try.prog 7 #[.slice A n c, .int .i64 most] w (RetV w (.bool true)) := by
  subst hn
  have HLV := Lib.hid (Vts.length _ _ hV)
  have HWF := Lib.hid hwf
  have HM := Lib.hid hm
  clear hwf hm
  go_enter Try.func7, Try.ntmps7
  go_wp2_with (go_at_call 9; refine (new_calls _).mono ?_; rintro e w1 ⟨rfl, hca, hb1⟩)
  have hz1 := hb1.size
  have hla := hca.lt
  have hq1 := heap_alloc_new w1 (.cells #[.slice none 0 0] 51)
  have hbq := below1 w1 (.cells #[.slice none 0 0] 51)
  have hC0 : Chain (w1.alloc (.cells #[.slice none 0 0] 51)) (w.heap.size + 1) w.heap.size [] 1 := ⟨hca.below hbq, by omega, by intro j h1 h2; omega, rfl, by intro e he; cases he⟩
  have hR0 : RChain (w1.alloc (.cells #[.slice none 0 0] 51)) w.heap.size w1.heap.size [] := ⟨none, 0, 0, [], hq1, World.ownsRow_nil _ _ _ _, rfl, rfl, hz1⟩
  have hB0 : Below w.heap.size w (w1.alloc (.cells #[.slice none 0 0] 51)) := hb1.trans (hbq.mono hz1)
  clear hca hq1 hbq
  go_loopw [18] (fun s wr => LvLoop w (w.heap.size + 1) w.heap.size w1.heap.size V.length s wr) (fun s _ => V.length - (intOf s).toNat)
  case atStart => exact ⟨0, [], 1, by omega, by omega, rfl, hC0, hR0, by simp, hB0⟩
  case round =>
    clear hC0 hR0 hB0
    obtain ⟨k, S, nx, hk, hk31, rfl, hC, hR, hlen, hB⟩ := hrel
    by_cases hgo : k < V.length ∧ k ≤ 30
    · obtain ⟨hkv, hk30⟩ := hgo
      obtain ⟨v, hv⟩ : ∃ v, V[k]? = some v := ⟨_, List.getElem?_eq_getElem hkv⟩
      have HW := Lib.hid (HWF.out v (List.mem_of_getElem? hv))
      obtain ⟨b, off, rfl⟩ := some_of_at hA (by rw [HLV.out]; omega)
      obtain ⟨cs, ⟨nA, nd, rfl, hnA, hnn, hnb, hns⟩, hat⟩ := Vts.at' _ _ k v hV hA hv
      have hat1 : At wr (some ⟨b, off + k * 14, none⟩) _ := hat.below hB
      have hki : (k : Int) < (V.length : Int) := by omega
      have hki30 : (k : Int) ≤ 30 := by omega
      clear hv hat
      go_wp2_with (refine wpList_load_at rfl 53 (.tmp 21) rfl rfl hat1 Try.underlying53 rfl (by kernel_rfl) ?_)
      have hbw := below1 wr (.cells #[.int .i64 v.1, .int .i64 v.2.1, .int .i64 v.2.2.1.id, .int .i64 v.2.2.1.kind, .string v.2.2.1.key, .int .i64 v.2.2.1.blob, .int .i64 v.2.2.1.other, .int .i64 v.2.2.1.index, .int .i64 v.2.2.1.node, .int .i64 v.2.2.1.size, .int .u32 v.2.2.1.sum, .int .i64 v.2.2.1.k, .int .i64 v.2.2.1.m, .slice nA v.2.2.2.length nd] 53)
      have hv1 := heap_alloc_new wr (.cells #[.int .i64 v.1, .int .i64 v.2.1, .int .i64 v.2.2.1.id, .int .i64 v.2.2.1.kind, .string v.2.2.1.key, .int .i64 v.2.2.1.blob, .int .i64 v.2.2.1.other, .int .i64 v.2.2.1.index, .int .i64 v.2.2.1.node, .int .i64 v.2.2.1.size, .int .u32 v.2.2.1.sum, .int .i64 v.2.2.1.k, .int .i64 v.2.2.1.m, .slice nA v.2.2.2.length nd] 53)
      generalize wr.alloc (.cells #[.int .i64 v.1, .int .i64 v.2.1, .int .i64 v.2.2.1.id, .int .i64 v.2.2.1.kind, .string v.2.2.1.key, .int .i64 v.2.2.1.blob, .int .i64 v.2.2.1.other, .int .i64 v.2.2.1.index, .int .i64 v.2.2.1.node, .int .i64 v.2.2.1.size, .int .u32 v.2.2.1.sum, .int .i64 v.2.2.1.k, .int .i64 v.2.2.1.m, .slice nA v.2.2.2.length nd] 53) = W1 at *
      have hbd : Below W1.heap.size W1 W1.drew := belowN 1
      have hbD : Below wr.heap.size wr W1.drew := hbw.trans (hbd.mono hbw.size)
      have hvD := Lib.hid (below_blk hv1 hbd)
      have hCD := hC.below hbD
      have hRD := hR.below hbD
      have hBD : Below w.heap.size w W1.drew := hB.trans (hbD.mono hB.size)
      have hzr := hB.size
      have hCl := hC.lt
      have hRl := hR.lt
      obtain ⟨r, hr⟩ : ∃ r, learnR S v.1 v.2.2 = r := ⟨_, rfl⟩
      obtain ⟨S', hS'⟩ : ∃ S', learnS S v.1 v.2.2 = S' := ⟨_, rfl⟩
      have hlen' : S'.length ≤ k + 1 := by rw [← hS']; have := learn_len S v.1 v.2.2; omega
      have HR := Lib.hid hr
      have HS' := Lib.hid hS'
      have hl := Lib.hid (by omega : S.length < 1000000)
      have hl' := Lib.hid (by omega : S'.length < 1000000)
      clear hr hS'
      refine wp_region_held_drew (S := fun w' => w'.cell? ⟨wr.heap.size, 0, none⟩ = some (.int .i64 v.1) ∧ w'.cell? ⟨wr.heap.size, 1, none⟩ = some (.int .i64 v.2.1) ∧ w'.cell? ⟨wr.heap.size, 2, none⟩ = some (.int .i64 v.2.2.1.id) ∧ w'.cell? ⟨wr.heap.size, 3, none⟩ = some (.int .i64 v.2.2.1.kind) ∧ w'.cell? ⟨wr.heap.size, 4, none⟩ = some (.string v.2.2.1.key) ∧ w'.cell? ⟨wr.heap.size, 5, none⟩ = some (.int .i64 v.2.2.1.blob) ∧ w'.cell? ⟨wr.heap.size, 6, none⟩ = some (.int .i64 v.2.2.1.other) ∧ w'.cell? ⟨wr.heap.size, 7, none⟩ = some (.int .i64 v.2.2.1.index) ∧ w'.cell? ⟨wr.heap.size, 8, none⟩ = some (.int .i64 v.2.2.1.node) ∧ w'.cell? ⟨wr.heap.size, 9, none⟩ = some (.int .i64 v.2.2.1.size) ∧ w'.cell? ⟨wr.heap.size, 10, none⟩ = some (.int .u32 v.2.2.1.sum) ∧ w'.cell? ⟨wr.heap.size, 11, none⟩ = some (.int .i64 v.2.2.1.k) ∧ w'.cell? ⟨wr.heap.size, 12, none⟩ = some (.int .i64 v.2.2.1.m) ∧ w'.cell? ⟨wr.heap.size, 13, none⟩ = some (.slice nA v.2.2.2.length nd)) (by kernel_rfl) (vcells_of hvD.out) (fun hHeld => ?_)
      clear hbd hv1 hbw
      generalize W1.drew = WD at *
      refine wpAnyH_take (i := 0) (v := ?_) rfl (by kernel_rfl) (by kernel_rfl) (by kernel_rfl) (fun _ _ _ h => h) (Or.inl ⟨by rfl, ?_⟩) (by assumption) ?_; rotate_left; (intro w hSw; (try dsimp only at hSw); go_simp; (first | done | (with_reducible rfl))); (try simp only [List.getElem_toArray, List.getElem_cons_succ, List.getElem_cons_zero, Act.put, List.setIfInBounds_toArray, List.set_cons_zero, List.set_cons_succ])
      refine wpAnyH_take (i := 1) (v := ?_) rfl (by kernel_rfl) (by kernel_rfl) (by kernel_rfl) (fun _ _ _ h => h) (Or.inl ⟨by rfl, ?_⟩) (by assumption) ?_; rotate_left; (intro w hSw; (try dsimp only at hSw); go_simp; (first | done | (with_reducible rfl))); (try simp only [List.getElem_toArray, List.getElem_cons_succ, List.getElem_cons_zero, Act.put, List.setIfInBounds_toArray, List.set_cons_zero, List.set_cons_succ])
      refine wpAnyH_take (i := 2) (v := ?_) rfl (by kernel_rfl) (by kernel_rfl) (by kernel_rfl) (fun _ _ _ h => h) (Or.inl ⟨by rfl, ?_⟩) (by assumption) ?_; rotate_left; (intro w hSw; (try dsimp only at hSw); go_simp; (first | done | (with_reducible rfl))); (try simp only [List.getElem_toArray, List.getElem_cons_succ, List.getElem_cons_zero, Act.put, List.setIfInBounds_toArray, List.set_cons_zero, List.set_cons_succ])
      refine wpAnyH_take (i := 3) (v := ?_) rfl (by kernel_rfl) (by kernel_rfl) (by kernel_rfl) (fun _ _ _ h => h) (Or.inl ⟨by rfl, ?_⟩) (by assumption) ?_; rotate_left; (intro w hSw; (try dsimp only at hSw); go_simp; (first | done | (with_reducible rfl))); (try simp only [List.getElem_toArray, List.getElem_cons_succ, List.getElem_cons_zero, Act.put, List.setIfInBounds_toArray, List.set_cons_zero, List.set_cons_succ])
      refine wpAnyH_take (i := 4) (v := ?_) rfl (by kernel_rfl) (by kernel_rfl) (by kernel_rfl) (fun _ _ _ h => h) (Or.inl ⟨by rfl, ?_⟩) (by assumption) ?_; rotate_left; (intro w hSw; (try dsimp only at hSw); go_simp; (first | done | (with_reducible rfl))); (try simp only [List.getElem_toArray, List.getElem_cons_succ, List.getElem_cons_zero, Act.put, List.setIfInBounds_toArray, List.set_cons_zero, List.set_cons_succ])
      refine wpAnyH_take (i := 6) (v := ?_) rfl (by kernel_rfl) (by kernel_rfl) (by kernel_rfl) (fun _ _ _ h => h) (Or.inl ⟨by rfl, ?_⟩) (by assumption) ?_; rotate_left; (intro w hSw; (try dsimp only at hSw); go_simp; (first | done | (with_reducible rfl))); (try simp only [List.getElem_toArray, List.getElem_cons_succ, List.getElem_cons_zero, Act.put, List.setIfInBounds_toArray, List.set_cons_zero, List.set_cons_succ])
      refine wpAnyH_take (i := 7) (v := ?_) rfl (by kernel_rfl) (by kernel_rfl) (by kernel_rfl) (fun _ _ _ h => h) (Or.inl ⟨by rfl, ?_⟩) (by assumption) ?_; rotate_left; (intro w hSw; (try dsimp only at hSw); go_simp; (first | done | (with_reducible rfl))); (try simp only [List.getElem_toArray, List.getElem_cons_succ, List.getElem_cons_zero, Act.put, List.setIfInBounds_toArray, List.set_cons_zero, List.set_cons_succ])
      refine wpAnyH_take (i := 8) (v := ?_) rfl (by kernel_rfl) (by kernel_rfl) (by kernel_rfl) (fun _ _ _ h => h) (Or.inl ⟨by rfl, ?_⟩) (by assumption) ?_; rotate_left; (intro w hSw; (try dsimp only at hSw); go_simp; (first | done | (with_reducible rfl))); (try simp only [List.getElem_toArray, List.getElem_cons_succ, List.getElem_cons_zero, Act.put, List.setIfInBounds_toArray, List.set_cons_zero, List.set_cons_succ])
      refine wpAnyH_take (i := 9) (v := ?_) rfl (by kernel_rfl) (by kernel_rfl) (by kernel_rfl) (fun _ _ _ h => h) (Or.inl ⟨by rfl, ?_⟩) (by assumption) ?_; rotate_left; (intro w hSw; (try dsimp only at hSw); go_simp; (first | done | (with_reducible rfl))); (try simp only [List.getElem_toArray, List.getElem_cons_succ, List.getElem_cons_zero, Act.put, List.setIfInBounds_toArray, List.set_cons_zero, List.set_cons_succ])
      refine wpAnyH_take (i := 10) (v := ?_) rfl (by kernel_rfl) (by kernel_rfl) (by kernel_rfl) (fun _ _ _ h => h) (Or.inl ⟨by rfl, ?_⟩) (by assumption) ?_; rotate_left; (intro w hSw; (try dsimp only at hSw); go_simp; (first | done | (with_reducible rfl))); (try simp only [List.getElem_toArray, List.getElem_cons_succ, List.getElem_cons_zero, Act.put, List.setIfInBounds_toArray, List.set_cons_zero, List.set_cons_succ])
      refine wpAnyH_ready (rs := [5]) (by kernel_rfl) (by simp) ?_; refine AllReadyH.cons rfl (fun K hK => ?_) AllReadyH.nil
      go_simp
      refine (learn_calls (x := v.2.2) hCD HW.out hl.out (hnA.below hBD) rfl hnn hnb hns).mono ?_
      rintro e w2 ⟨rfl, hU2, nx2, hC2⟩
      rw [HR.out]
      rw [HS'.out] at hC2
      have hv2 := Lib.hid (upd_blk hvD.out hU2 (by omega) (by omega))
      have hR2 := hRD.upd hCD hU2
      have hB2 : Below w.heap.size w w2 := hBD.trans (hU2.below (by omega) (by omega) hBD.size)
      go_wp2_with fail
      refine hK.out _ _ (vcells_of hv2.out) (fun hHeld => ?_)
      clear hK K
      (try simp only [List.getElem_toArray, List.getElem_cons_succ, List.getElem_cons_zero, Act.put, List.setIfInBounds_toArray, List.set_cons_zero, List.set_cons_succ])
      refine wpAnyH_ready (rs := [11]) (by kernel_rfl) (by simp) ?_; refine AllReadyH.cons rfl (fun K hK => ?_) AllReadyH.nil
      go_simp
      refine (rlearn_calls (x := v.2.2) hR2 hl.out (hnA.below hB2) rfl hnn hnb).mono ?_
      rintro e w3 ⟨rfl, hK3, hB3, hR3⟩
      rw [HR.out]
      rw [HS'.out] at hR3
      have hv3 := Lib.hid (hK3 _ _ hv2.out (by intro cs fr he; injection he with _ h2 _; exact absurd h2 (by decide)) (by intro cs fr he; injection he with _ h2 _; exact absurd h2 (by decide)))
      have hC3 := hC2.keepT hK3
      have hBB3 : Below w.heap.size w w3 := hB2.trans hB3
      clear hC2 hR2 hB2 hv2 hU2 hK3 hB3 hCD hRD hvD
      go_wp2_with fail
      refine hK.out _ _ (vcells_of hv3.out) (fun hHeld => ?_)
      clear hK K
      (try simp only [List.getElem_toArray, List.getElem_cons_succ, List.getElem_cons_zero, Act.put, List.setIfInBounds_toArray, List.set_cons_zero, List.set_cons_succ])
      refine wpAnyH_take (i := 12) (v := ?_) rfl (by kernel_rfl) (by kernel_rfl) (by kernel_rfl) (fun _ _ _ h => h) (Or.inl ⟨by rfl, ?_⟩) (by assumption) ?_; rotate_left; (intro w hSw; (try dsimp only at hSw); go_simp; (first | done | (with_reducible rfl))); (try simp only [List.getElem_toArray, List.getElem_cons_succ, List.getElem_cons_zero, Act.put, List.setIfInBounds_toArray, List.set_cons_zero, List.set_cons_succ])
      refine wpAnyH_take (i := 13) (v := ?_) rfl (by kernel_rfl) (by kernel_rfl) (by kernel_rfl) (fun _ _ _ h => h) (Or.inl ⟨by rfl, ?_⟩) (by assumption) ?_; rotate_left; (intro w hSw; (try dsimp only at hSw); go_simp; (first | done | (with_reducible rfl))); (try simp only [List.getElem_toArray, List.getElem_cons_succ, List.getElem_cons_zero, Act.put, List.setIfInBounds_toArray, List.set_cons_zero, List.set_cons_succ])
      refine wpAnyH_take (i := 14) (v := ?_) rfl (by kernel_rfl) (by kernel_rfl) (by kernel_rfl) (fun _ _ _ h => h) (Or.inl ⟨by rfl, ?_⟩) (by assumption) ?_; rotate_left; (intro w hSw; (try dsimp only at hSw); go_simp; (first | done | (with_reducible rfl))); (try simp only [List.getElem_toArray, List.getElem_cons_succ, List.getElem_cons_zero, Act.put, List.setIfInBounds_toArray, List.set_cons_zero, List.set_cons_succ])
      refine wpAnyH_take (i := 16) (v := ?_) rfl (by kernel_rfl) (by kernel_rfl) (by kernel_rfl) (fun _ _ _ h => h) (Or.inl ⟨by rfl, ?_⟩) (by assumption) ?_; rotate_left; (intro w hSw; (try dsimp only at hSw); go_simp; (first | done | (with_reducible rfl))); (try simp only [List.getElem_toArray, List.getElem_cons_succ, List.getElem_cons_zero, Act.put, List.setIfInBounds_toArray, List.set_cons_zero, List.set_cons_succ])
      have hnx := Lib.hid (hC3.at'.nx_le hC3.all)
      refine wpAnyH_ready (rs := [15]) (by kernel_rfl) (by simp) ?_; refine AllReadyH.cons rfl (fun K hK => ?_) AllReadyH.nil
      go_simp
      refine (next_calls hC3.at').mono ?_
      rintro e w' ⟨rfl, rfl⟩
      go_wp2_with fail
      refine hK.out _ _ (vcells_of hv3.out) (fun hHeld => ?_)
      clear hK K
      (try simp only [List.getElem_toArray, List.getElem_cons_succ, List.getElem_cons_zero, Act.put, List.setIfInBounds_toArray, List.set_cons_zero, List.set_cons_succ])
      refine wpAnyH_ready (rs := [17]) (by kernel_rfl) (by simp) ?_; refine AllReadyH.cons rfl (fun K hK => ?_) AllReadyH.nil
      go_simp
      refine (rnext_calls hR3 hl'.out hC3.pos hnx.out hC3.all hC3.next).mono ?_
      rintro e w4 ⟨rfl, hb4⟩
      have hv4 := Lib.hid (below_blk hv3.out hb4)
      have hC4 := hC3.below hb4
      have hR4 := hR3.below hb4
      have hB4 : Below w.heap.size w w4 := hBB3.trans (hb4.mono hBB3.size)
      go_wp2_with fail
      refine hK.out _ _ (vcells_of hv4.out) (fun hHeld => ?_)
      clear hK K
      (try simp only [List.getElem_toArray, List.getElem_cons_succ, List.getElem_cons_zero, Act.put, List.setIfInBounds_toArray, List.set_cons_zero, List.set_cons_succ])
      refine wpAnyH_take (i := 18) (v := ?_) rfl (by kernel_rfl) (by kernel_rfl) (by kernel_rfl) (fun _ _ _ h => h) (Or.inl ⟨by rfl, ?_⟩) (by assumption) ?_; rotate_left; (intro w hSw; (try dsimp only at hSw); go_simp; (first | done | (with_reducible rfl))); (try simp only [List.getElem_toArray, List.getElem_cons_succ, List.getElem_cons_zero, Act.put, List.setIfInBounds_toArray, List.set_cons_zero, List.set_cons_succ])
      refine wpAnyH_take (i := 19) (v := ?_) rfl (by kernel_rfl) (by kernel_rfl) (by kernel_rfl) (fun _ _ _ h => h) (Or.inl ⟨by rfl, ?_⟩) (by assumption) ?_; rotate_left; (intro w hSw; (try dsimp only at hSw); go_simp; (first | done | (with_reducible rfl))); (try simp only [List.getElem_toArray, List.getElem_cons_succ, List.getElem_cons_zero, Act.put, List.setIfInBounds_toArray, List.set_cons_zero, List.set_cons_succ])
      refine wpAnyH_done (by kernel_rfl) ?_ _
      clear hHeld hv3 hC3 hR3 hBB3 hb4
      have hc4 : w4.cell? ⟨wr.heap.size, 0, none⟩ = some (.int .i64 v.1) := blk_cell hv4.out 0
      obtain ⟨y, bb, hy⟩ : ∃ y bb, gy (look S' v.1) = (y, bb) := ⟨_, _, rfl⟩
      have HY := Lib.hid hy
      clear hy
      go_wp2_with (first
        | (go_at_call 11; refine (get_y hC4.at' HW.out HY.out).mono ?_; rintro e w5 ⟨A5, d5, rfl, hA5, hy5, hb5⟩; have hc5 := (blk_cell (below_blk (below_blk hv4.out hb5) (below1 _ (.cells #[.int .i64 y.1.id, .int .i64 y.1.kind, .string y.1.key, .int .i64 y.1.blob, .int .i64 y.1.other, .int .i64 y.1.index, .int .i64 y.1.node, .int .i64 y.1.size, .int .u32 y.1.sum, .int .i64 y.1.k, .int .i64 y.1.m, .slice A5 y.2.length d5] 27))) 0); simp at hc5)
        | (go_at_call 17; refine (rget_y ((hR4.below hb5).below (below1 _ _)) hl'.out HY.out).mono ?_; rintro e w6 ⟨A6, d6, rfl, hA6, hy6, hb6⟩))
      have hz5 := hb5.size
      have hz6 := hb6.size
      have b5 : Below w4.heap.size w4 (w5.alloc (.cells #[.int .i64 y.1.id, .int .i64 y.1.kind, .string y.1.key, .int .i64 y.1.blob, .int .i64 y.1.other, .int .i64 y.1.index, .int .i64 y.1.node, .int .i64 y.1.size, .int .u32 y.1.sum, .int .i64 y.1.k, .int .i64 y.1.m, .slice A5 y.2.length d5] 27)) := hb5.trans ((below1 _ _).mono hz5)
      have b6 : Below (w5.alloc (.cells #[.int .i64 y.1.id, .int .i64 y.1.kind, .string y.1.key, .int .i64 y.1.blob, .int .i64 y.1.other, .int .i64 y.1.index, .int .i64 y.1.node, .int .i64 y.1.size, .int .u32 y.1.sum, .int .i64 y.1.k, .int .i64 y.1.m, .slice A5 y.2.length d5] 27)).heap.size (w5.alloc (.cells #[.int .i64 y.1.id, .int .i64 y.1.kind, .string y.1.key, .int .i64 y.1.blob, .int .i64 y.1.other, .int .i64 y.1.index, .int .i64 y.1.node, .int .i64 y.1.size, .int .u32 y.1.sum, .int .i64 y.1.k, .int .i64 y.1.m, .slice A5 y.2.length d5] 27)) (w6.alloc (.cells #[.int .i64 y.1.id, .int .i64 y.1.kind, .string y.1.key, .int .i64 y.1.blob, .int .i64 y.1.other, .int .i64 y.1.index, .int .i64 y.1.node, .int .i64 y.1.size, .int .u32 y.1.sum, .int .i64 y.1.k, .int .i64 y.1.m, .slice A6 y.2.length d6] 27)).drew := (hb6.trans ((below1 _ _).mono hz6)).trans ((belowN 1 : Below (w6.alloc (.cells #[.int .i64 y.1.id, .int .i64 y.1.kind, .string y.1.key, .int .i64 y.1.blob, .int .i64 y.1.other, .int .i64 y.1.index, .int .i64 y.1.node, .int .i64 y.1.size, .int .u32 y.1.sum, .int .i64 y.1.k, .int .i64 y.1.m, .slice A6 y.2.length d6] 27)).heap.size _ (w6.alloc (.cells #[.int .i64 y.1.id, .int .i64 y.1.kind, .string y.1.key, .int .i64 y.1.blob, .int .i64 y.1.other, .int .i64 y.1.index, .int .i64 y.1.node, .int .i64 y.1.size, .int .u32 y.1.sum, .int .i64 y.1.k, .int .i64 y.1.m, .slice A6 y.2.length d6] 27)).drew).mono (by simp at hz6 ⊢; omega))
      have b8 := b5.trans (b6.mono b5.size)
      have hga := Lib.hid (below_blk (heap_alloc_new w5 (.cells #[.int .i64 y.1.id, .int .i64 y.1.kind, .string y.1.key, .int .i64 y.1.blob, .int .i64 y.1.other, .int .i64 y.1.index, .int .i64 y.1.node, .int .i64 y.1.size, .int .u32 y.1.sum, .int .i64 y.1.k, .int .i64 y.1.m, .slice A5 y.2.length d5] 27)) b6)
      have hgb : Hid ((w6.alloc (.cells #[.int .i64 y.1.id, .int .i64 y.1.kind, .string y.1.key, .int .i64 y.1.blob, .int .i64 y.1.other, .int .i64 y.1.index, .int .i64 y.1.node, .int .i64 y.1.size, .int .u32 y.1.sum, .int .i64 y.1.k, .int .i64 y.1.m, .slice A6 y.2.length d6] 27)).drew.heap[w6.heap.size]? = _) := Lib.hid (below_blk (heap_alloc_new w6 (.cells #[.int .i64 y.1.id, .int .i64 y.1.kind, .string y.1.key, .int .i64 y.1.blob, .int .i64 y.1.other, .int .i64 y.1.index, .int .i64 y.1.node, .int .i64 y.1.size, .int .u32 y.1.sum, .int .i64 y.1.k, .int .i64 y.1.m, .slice A6 y.2.length d6] 27)) (belowN 1))
      have hv8 := Lib.hid (below_blk hv4.out b8)
      have hC8 := hC4.below b8
      have hR8 := hR4.below b8
      have hB8 := hB4.trans (b8.mono hB4.size)
      have hA58 := (hA5.below (below1 _ (.cells #[.int .i64 y.1.id, .int .i64 y.1.kind, .string y.1.key, .int .i64 y.1.blob, .int .i64 y.1.other, .int .i64 y.1.index, .int .i64 y.1.node, .int .i64 y.1.size, .int .u32 y.1.sum, .int .i64 y.1.k, .int .i64 y.1.m, .slice A5 y.2.length d5] 27))).below b6
      have hA68 : At (w6.alloc (.cells #[.int .i64 y.1.id, .int .i64 y.1.kind, .string y.1.key, .int .i64 y.1.blob, .int .i64 y.1.other, .int .i64 y.1.index, .int .i64 y.1.node, .int .i64 y.1.size, .int .u32 y.1.sum, .int .i64 y.1.k, .int .i64 y.1.m, .slice A6 y.2.length d6] 27)).drew A6 (ints y.2) := (hA6.below (below1 _ (.cells #[.int .i64 y.1.id, .int .i64 y.1.kind, .string y.1.key, .int .i64 y.1.blob, .int .i64 y.1.other, .int .i64 y.1.index, .int .i64 y.1.node, .int .i64 y.1.size, .int .u32 y.1.sum, .int .i64 y.1.k, .int .i64 y.1.m, .slice A6 y.2.length d6] 27))).below (belowN 1)
      clear b5 b6 b8 hc5 hc4 hv4 hC4 hR4 hB4 hb5 hA5 hA6 hb6
      refine wp_region_held_drew (S := fun w' => w'.cell? ⟨wr.heap.size, 0, none⟩ = some (.int .i64 v.1) ∧ (w'.cell? ⟨w5.heap.size, 0, none⟩ = some (.int .i64 y.1.id) ∧ w'.cell? ⟨w5.heap.size, 1, none⟩ = some (.int .i64 y.1.kind) ∧ w'.cell? ⟨w5.heap.size, 2, none⟩ = some (.string y.1.key) ∧ w'.cell? ⟨w5.heap.size, 3, none⟩ = some (.int .i64 y.1.blob) ∧ w'.cell? ⟨w5.heap.size, 4, none⟩ = some (.int .i64 y.1.other) ∧ w'.cell? ⟨w5.heap.size, 5, none⟩ = some (.int .i64 y.1.index) ∧ w'.cell? ⟨w5.heap.size, 6, none⟩ = some (.int .i64 y.1.node) ∧ w'.cell? ⟨w5.heap.size, 7, none⟩ = some (.int .i64 y.1.size) ∧ w'.cell? ⟨w5.heap.size, 8, none⟩ = some (.int .u32 y.1.sum) ∧ w'.cell? ⟨w5.heap.size, 9, none⟩ = some (.int .i64 y.1.k) ∧ w'.cell? ⟨w5.heap.size, 10, none⟩ = some (.int .i64 y.1.m) ∧ w'.cell? ⟨w5.heap.size, 11, none⟩ = some (.slice A5 y.2.length d5)) ∧ (w'.cell? ⟨w6.heap.size, 0, none⟩ = some (.int .i64 y.1.id) ∧ w'.cell? ⟨w6.heap.size, 1, none⟩ = some (.int .i64 y.1.kind) ∧ w'.cell? ⟨w6.heap.size, 2, none⟩ = some (.string y.1.key) ∧ w'.cell? ⟨w6.heap.size, 3, none⟩ = some (.int .i64 y.1.blob) ∧ w'.cell? ⟨w6.heap.size, 4, none⟩ = some (.int .i64 y.1.other) ∧ w'.cell? ⟨w6.heap.size, 5, none⟩ = some (.int .i64 y.1.index) ∧ w'.cell? ⟨w6.heap.size, 6, none⟩ = some (.int .i64 y.1.node) ∧ w'.cell? ⟨w6.heap.size, 7, none⟩ = some (.int .i64 y.1.size) ∧ w'.cell? ⟨w6.heap.size, 8, none⟩ = some (.int .u32 y.1.sum) ∧ w'.cell? ⟨w6.heap.size, 9, none⟩ = some (.int .i64 y.1.k) ∧ w'.cell? ⟨w6.heap.size, 10, none⟩ = some (.int .i64 y.1.m) ∧ w'.cell? ⟨w6.heap.size, 11, none⟩ = some (.slice A6 y.2.length d6))) (by kernel_rfl) ⟨blk_cell hv8.out 0, cells_of hga.out, cells_of hgb.out⟩ (fun hHeld => ?_)
      generalize (w6.alloc (.cells #[.int .i64 y.1.id, .int .i64 y.1.kind, .string y.1.key, .int .i64 y.1.blob, .int .i64 y.1.other, .int .i64 y.1.index, .int .i64 y.1.node, .int .i64 y.1.size, .int .u32 y.1.sum, .int .i64 y.1.k, .int .i64 y.1.m, .slice A6 y.2.length d6] 27)).drew = W8 at *
      have hrl := Lib.hid (run_len_S S' most.toNat (max v.1 1))
      obtain ⟨L, hL⟩ : ∃ L, runL S' most.toNat (max v.1 1) = L := ⟨_, rfl⟩
      rw [hL] at hrl
      have HL := Lib.hid hL
      clear hL
      refine wpAnyH_take (i := 0) (v := ?_) rfl (by kernel_rfl) (by kernel_rfl) (by kernel_rfl) (fun _ _ _ h => h) (Or.inl ⟨by rfl, ?_⟩) (by assumption) ?_; rotate_left; (intro w hSw; (try dsimp only at hSw); go_simp; (first | done | (with_reducible rfl))); (try simp only [List.getElem_toArray, List.getElem_cons_succ, List.getElem_cons_zero, Act.put, List.setIfInBounds_toArray, List.set_cons_zero, List.set_cons_succ])
      refine wpAnyH_take (i := 1) (v := ?_) rfl (by kernel_rfl) (by kernel_rfl) (by kernel_rfl) (fun _ _ _ h => h) (Or.inl ⟨by rfl, ?_⟩) (by assumption) ?_; rotate_left; (intro w hSw; (try dsimp only at hSw); go_simp; (first | done | (with_reducible rfl))); (try simp only [List.getElem_toArray, List.getElem_cons_succ, List.getElem_cons_zero, Act.put, List.setIfInBounds_toArray, List.set_cons_zero, List.set_cons_succ])
      refine wpAnyH_take (i := 2) (v := ?_) rfl (by kernel_rfl) (by kernel_rfl) (by kernel_rfl) (fun _ _ _ h => h) (Or.inl ⟨by rfl, ?_⟩) (by assumption) ?_; rotate_left; (intro w hSw; (try dsimp only at hSw); go_simp; (first | done | (with_reducible rfl))); (try simp only [List.getElem_toArray, List.getElem_cons_succ, List.getElem_cons_zero, Act.put, List.setIfInBounds_toArray, List.set_cons_zero, List.set_cons_succ])
      refine wpAnyH_take (i := 3) (v := ?_) rfl (by kernel_rfl) (by kernel_rfl) (by kernel_rfl) (fun _ _ _ h => h) (Or.inl ⟨by rfl, ?_⟩) (by assumption) ?_; rotate_left; (intro w hSw; (try dsimp only at hSw); go_simp; (first | done | (with_reducible rfl))); (try simp only [List.getElem_toArray, List.getElem_cons_succ, List.getElem_cons_zero, Act.put, List.setIfInBounds_toArray, List.set_cons_zero, List.set_cons_succ])
      refine wpAnyH_take (i := 4) (v := ?_) rfl (by kernel_rfl) (by kernel_rfl) (by kernel_rfl) (fun _ _ _ h => h) (Or.inl ⟨by rfl, ?_⟩) (by assumption) ?_; rotate_left; (intro w hSw; (try dsimp only at hSw); go_simp; (first | done | (with_reducible rfl))); (try simp only [List.getElem_toArray, List.getElem_cons_succ, List.getElem_cons_zero, Act.put, List.setIfInBounds_toArray, List.set_cons_zero, List.set_cons_succ])
      refine wpAnyH_take (i := 5) (v := ?_) rfl (by kernel_rfl) (by kernel_rfl) (by kernel_rfl) (fun _ _ _ h => h) (Or.inl ⟨by rfl, ?_⟩) (by assumption) ?_; rotate_left; (intro w hSw; (try dsimp only at hSw); go_simp; (first | done | (with_reducible rfl))); (try simp only [List.getElem_toArray, List.getElem_cons_succ, List.getElem_cons_zero, Act.put, List.setIfInBounds_toArray, List.set_cons_zero, List.set_cons_succ])
      refine wpAnyH_ready (rs := [6]) (by kernel_rfl) (by simp) ?_; refine AllReadyH.cons rfl (fun K hK => ?_) AllReadyH.nil
      go_simp
      refine (psame_calls (x := y) (y := y) hA58 hA68 rfl rfl (Nat.le_trans hy5 (by decide))).mono ?_
      rw [sameB_refl]
      rintro e w9 ⟨rfl, hb9⟩
      have hz8 := hB8.size
      have hga9 := Lib.hid (below_blk hga.out hb9)
      have hgb9 := Lib.hid (below_blk hgb.out hb9)
      have hv9 := Lib.hid (below_blk hv8.out hb9)
      have hC9 := hC8.below hb9
      have hR9 := hR8.below hb9
      have hB9 := hB8.trans (hb9.mono hz8)
      clear hga hgb hv8 hC8 hR8 hB8 hA58 hA68 hb9
      go_wp2_with fail
      refine hK.out _ _ ⟨blk_cell hv9.out 0, cells_of hga9.out, cells_of hgb9.out⟩ (fun hHeld => ?_)
      clear hK K
      (try simp only [List.getElem_toArray, List.getElem_cons_succ, List.getElem_cons_zero, Act.put, List.setIfInBounds_toArray, List.set_cons_zero, List.set_cons_succ])
      refine wpAnyH_take (i := 7) (v := ?_) rfl (by kernel_rfl) (by kernel_rfl) (by kernel_rfl) (fun _ _ _ h => h) (Or.inl ⟨by rfl, ?_⟩) (by assumption) ?_; rotate_left; (intro w hSw; (try dsimp only at hSw); go_simp; (first | done | (with_reducible rfl))); (try simp only [List.getElem_toArray, List.getElem_cons_succ, List.getElem_cons_zero, Act.put, List.setIfInBounds_toArray, List.set_cons_zero, List.set_cons_succ])
      refine wpAnyH_take (i := 8) (v := ?_) rfl (by kernel_rfl) (by kernel_rfl) (by kernel_rfl) (fun _ _ _ h => h) (Or.inl ⟨by rfl, ?_⟩) (by assumption) ?_; rotate_left; (intro w hSw; (try dsimp only at hSw); go_simp; (first | done | (with_reducible rfl))); (try simp only [List.getElem_toArray, List.getElem_cons_succ, List.getElem_cons_zero, Act.put, List.setIfInBounds_toArray, List.set_cons_zero, List.set_cons_succ])
      refine wpAnyH_take (i := 9) (v := ?_) rfl (by kernel_rfl) (by kernel_rfl) (by kernel_rfl) (fun _ _ _ h => h) (Or.inl ⟨by rfl, ?_⟩) (by assumption) ?_; rotate_left; (intro w hSw; (try dsimp only at hSw); go_simp; (first | done | (with_reducible rfl))); (try simp only [List.getElem_toArray, List.getElem_cons_succ, List.getElem_cons_zero, Act.put, List.setIfInBounds_toArray, List.set_cons_zero, List.set_cons_succ])
      refine wpAnyH_take (i := 10) (v := ?_) rfl (by kernel_rfl) (by kernel_rfl) (by kernel_rfl) (fun _ _ _ h => h) (Or.inl ⟨by rfl, ?_⟩) (by assumption) ?_; rotate_left; (intro w hSw; (try dsimp only at hSw); go_simp; (first | done | (with_reducible rfl))); (try simp only [List.getElem_toArray, List.getElem_cons_succ, List.getElem_cons_zero, Act.put, List.setIfInBounds_toArray, List.set_cons_zero, List.set_cons_succ])
      refine wpAnyH_take (i := 11) (v := ?_) rfl (by kernel_rfl) (by kernel_rfl) (by kernel_rfl) (fun _ _ _ h => h) (Or.inl ⟨by rfl, ?_⟩) (by assumption) ?_; rotate_left; (intro w hSw; (try dsimp only at hSw); go_simp; (first | done | (with_reducible rfl))); (try simp only [List.getElem_toArray, List.getElem_cons_succ, List.getElem_cons_zero, Act.put, List.setIfInBounds_toArray, List.set_cons_zero, List.set_cons_succ])
      refine wpAnyH_take (i := 12) (v := ?_) rfl (by kernel_rfl) (by kernel_rfl) (by kernel_rfl) (fun _ _ _ h => h) (Or.inl ⟨by rfl, ?_⟩) (by assumption) ?_; rotate_left; (intro w hSw; (try dsimp only at hSw); go_simp; (first | done | (with_reducible rfl))); (try simp only [List.getElem_toArray, List.getElem_cons_succ, List.getElem_cons_zero, Act.put, List.setIfInBounds_toArray, List.set_cons_zero, List.set_cons_succ])
      refine wpAnyH_take (i := 13) (v := ?_) rfl (by kernel_rfl) (by kernel_rfl) (by kernel_rfl) (fun _ _ _ h => h) (Or.inl ⟨by rfl, ?_⟩) (by assumption) ?_; rotate_left; (intro w hSw; (try dsimp only at hSw); go_simp; (first | done | (with_reducible rfl))); (try simp only [List.getElem_toArray, List.getElem_cons_succ, List.getElem_cons_zero, Act.put, List.setIfInBounds_toArray, List.set_cons_zero, List.set_cons_succ])
      refine wpAnyH_take (i := 15) (v := ?_) rfl (by kernel_rfl) (by kernel_rfl) (by kernel_rfl) (fun _ _ _ h => h) (Or.inl ⟨by rfl, ?_⟩) (by assumption) ?_; rotate_left; (intro w hSw; (try dsimp only at hSw); go_simp; (first | done | (with_reducible rfl))); (try simp only [List.getElem_toArray, List.getElem_cons_succ, List.getElem_cons_zero, Act.put, List.setIfInBounds_toArray, List.set_cons_zero, List.set_cons_succ])
      refine wpAnyH_take (i := 16) (v := ?_) rfl (by kernel_rfl) (by kernel_rfl) (by kernel_rfl) (fun _ _ _ h => h) (Or.inl ⟨by rfl, ?_⟩) (by assumption) ?_; rotate_left; (intro w hSw; (try dsimp only at hSw); go_simp; (first | done | (with_reducible rfl))); (try simp only [List.getElem_toArray, List.getElem_cons_succ, List.getElem_cons_zero, Act.put, List.setIfInBounds_toArray, List.set_cons_zero, List.set_cons_succ])
      refine wpAnyH_take (i := 17) (v := ?_) rfl (by kernel_rfl) (by kernel_rfl) (by kernel_rfl) (fun _ _ _ h => h) (Or.inl ⟨by rfl, ?_⟩) (by assumption) ?_; rotate_left; (intro w hSw; (try dsimp only at hSw); go_simp; (first | done | (with_reducible rfl))); (try simp only [List.getElem_toArray, List.getElem_cons_succ, List.getElem_cons_zero, Act.put, List.setIfInBounds_toArray, List.set_cons_zero, List.set_cons_succ])
      refine wpAnyH_take (i := 18) (v := ?_) rfl (by kernel_rfl) (by kernel_rfl) (by kernel_rfl) (fun _ _ _ h => h) (Or.inl ⟨by rfl, ?_⟩) (by assumption) ?_; rotate_left; (intro w hSw; (try dsimp only at hSw); go_simp; (first | done | (with_reducible rfl))); (try simp only [List.getElem_toArray, List.getElem_cons_succ, List.getElem_cons_zero, Act.put, List.setIfInBounds_toArray, List.set_cons_zero, List.set_cons_succ])
      refine wpAnyH_ready (rs := [14]) (by kernel_rfl) (by simp) ?_; refine AllReadyH.cons rfl (fun K hK => ?_) AllReadyH.nil
      go_simp
      refine (from_calls hC9.at' hl'.out HW.out HM.out).mono ?_
      rw [HL.out]
      rintro e w10 ⟨A7, n7, d7, vs7, rfl, hn7, ho7, hv7, hb10⟩
      have HN7 := Lib.hid hn7
      clear hn7
      have hz9 := hB9.size
      have hga10 := Lib.hid (below_blk hga9.out hb10)
      have hgb10 := Lib.hid (below_blk hgb9.out hb10)
      have hv10 := Lib.hid (below_blk hv9.out hb10)
      have hC10 := hC9.below hb10
      have hR10 := hR9.below hb10
      have hB10 := hB9.trans (hb10.mono hz9)
      clear hga9 hgb9 hv9 hC9 hR9 hB9 hb10
      go_wp2_with fail
      refine hK.out _ _ ⟨blk_cell hv10.out 0, cells_of hga10.out, cells_of hgb10.out⟩ (fun hHeld => ?_)
      clear hK K
      (try simp only [List.getElem_toArray, List.getElem_cons_succ, List.getElem_cons_zero, Act.put, List.setIfInBounds_toArray, List.set_cons_zero, List.set_cons_succ])
      refine wpAnyH_ready (rs := [19]) (by kernel_rfl) (by simp) ?_; refine AllReadyH.cons rfl (fun K hK => ?_) AllReadyH.nil
      go_simp
      refine (rfrom_calls hR10 hl'.out hC10.at'.keys hR10.max HW.out HM.out).mono ?_
      rw [HL.out]
      rintro e w11 ⟨A8, n8, d8, vs8, rfl, hn8, ho8, hv8, hb11⟩
      obtain rfl : n8 = n7 := hn8.trans HN7.out.symm
      clear hn8
      have hz10 := hB10.size
      have hga11 := Lib.hid (below_blk hga10.out hb11)
      have hgb11 := Lib.hid (below_blk hgb10.out hb11)
      have hv11 := Lib.hid (below_blk hv10.out hb11)
      have hC11 := hC10.below hb11
      have hR11 := hR10.below hb11
      have hB11 := hB10.trans (hb11.mono hz10)
      have HE := Lib.hid (eqf_calls (a := d7) (b := d8) ((own_atN ho7).below hb11) (own_atN ho8) (Cmds.below hb11 _ _ hv7) hv8 HN7.out (by have := hrl.out; have := hl'.out; omega))
      clear hga10 hgb10 hv10 hC10 hR10 hB10 hb11 ho7 ho8 hv7 hv8
      go_wp2_with fail
      refine hK.out _ _ ⟨blk_cell hv11.out 0, cells_of hga11.out, cells_of hgb11.out⟩ (fun hHeld => ?_)
      clear hK K
      (try simp only [List.getElem_toArray, List.getElem_cons_succ, List.getElem_cons_zero, Act.put, List.setIfInBounds_toArray, List.set_cons_zero, List.set_cons_succ])
      refine wpAnyH_ready (rs := [20]) (by kernel_rfl) (by simp) ?_; refine AllReadyH.cons rfl (fun K hK => ?_) AllReadyH.nil
      go_simp
      refine HE.out.mono ?_
      rintro e w12 ⟨rfl, hb12⟩
      have hz11 := hB11.size
      have hga12 := Lib.hid (below_blk hga11.out hb12)
      have hgb12 := Lib.hid (below_blk hgb11.out hb12)
      have hv12 := Lib.hid (below_blk hv11.out hb12)
      have hC12 := hC11.below hb12
      have hR12 := hR11.below hb12
      have hB12 := hB11.trans (hb12.mono hz11)
      clear hga11 hgb11 hv11 hC11 hR11 hB11 hb12 HE
      go_wp2_with fail
      refine hK.out _ _ ⟨blk_cell hv12.out 0, cells_of hga12.out, cells_of hgb12.out⟩ (fun hHeld => ?_)
      clear hK K
      (try simp only [List.getElem_toArray, List.getElem_cons_succ, List.getElem_cons_zero, Act.put, List.setIfInBounds_toArray, List.set_cons_zero, List.set_cons_succ])
      refine wpAnyH_take (i := 21) (v := ?_) rfl (by kernel_rfl) (by kernel_rfl) (by kernel_rfl) (fun _ _ _ h => h) (Or.inl ⟨by rfl, ?_⟩) (by assumption) ?_; rotate_left; (intro w hSw; (try dsimp only at hSw); go_simp; (first | done | (with_reducible rfl))); (try simp only [List.getElem_toArray, List.getElem_cons_succ, List.getElem_cons_zero, Act.put, List.setIfInBounds_toArray, List.set_cons_zero, List.set_cons_succ])
      refine wpAnyH_take (i := 22) (v := ?_) rfl (by kernel_rfl) (by kernel_rfl) (by kernel_rfl) (fun _ _ _ h => h) (Or.inl ⟨by rfl, ?_⟩) (by assumption) ?_; rotate_left; (intro w hSw; (try dsimp only at hSw); go_simp; (first | done | (with_reducible rfl))); (try simp only [List.getElem_toArray, List.getElem_cons_succ, List.getElem_cons_zero, Act.put, List.setIfInBounds_toArray, List.set_cons_zero, List.set_cons_succ])
      refine wpAnyH_done (by kernel_rfl) ?_ _
      go_wp2_with fail
      exact ⟨⟨k + 1, S', nx2, by omega, by omega, by go_num, hC12, hR12, hlen', hB12⟩, by simp [intOf]; omega⟩
    · by_cases hkv : k < V.length
      · obtain rfl : k = 31 := by omega
        obtain ⟨v, hv⟩ : ∃ v, V[31]? = some v := ⟨_, List.getElem?_eq_getElem hkv⟩
        obtain ⟨b, off, rfl⟩ := some_of_at hA (by rw [HLV.out]; omega)
        obtain ⟨cs, ⟨nA, nd, rfl, hnA, hnn, hnb, hns⟩, hat⟩ := Vts.at' _ _ 31 v hV hA hv
        have hat1 : At wr (some ⟨b, off + 31 * 14, none⟩) _ := hat.below hB
        have hki : (31 : Int) < (V.length : Int) := by omega
        have hn2 := Lib.hid (hC.at'.nx_le hC.all)
        have hl := Lib.hid (by omega : S.length < 1000000)
        have hbw := below1 wr (.cells #[.int .i64 v.1, .int .i64 v.2.1, .int .i64 v.2.2.1.id, .int .i64 v.2.2.1.kind, .string v.2.2.1.key, .int .i64 v.2.2.1.blob, .int .i64 v.2.2.1.other, .int .i64 v.2.2.1.index, .int .i64 v.2.2.1.node, .int .i64 v.2.2.1.size, .int .u32 v.2.2.1.sum, .int .i64 v.2.2.1.k, .int .i64 v.2.2.1.m, .slice nA v.2.2.2.length nd] 53)
        have hC' := hC.below hbw
        have hR' := hR.below hbw
        have hB' := hB.trans (hbw.mono hB.size)
        clear hv hat
        go_wp2_with (first
          | (refine wpList_load_at rfl 53 (.tmp 21) rfl rfl hat1 Try.underlying53 rfl (by kernel_rfl) ?_)
          | (go_at_call 13; refine (next_calls hC'.at').mono ?_; rintro e w' ⟨rfl, rfl⟩)
          | (go_at_call 16; refine (rnext_calls hR' hl.out hC.pos hn2.out hC.all hC.next).mono ?_; rintro e w' ⟨rfl, hb⟩))
        go_ret
        exact ⟨rfl, hB'.trans (hb.mono hB'.size)⟩
      · obtain rfl : k = V.length := by omega
        have hn2 := Lib.hid (hC.at'.nx_le hC.all)
        have hl := Lib.hid (by omega : S.length < 1000000)
        go_wp2_with (first
          | (go_at_call 13; refine (next_calls hC.at').mono ?_; rintro e w' ⟨rfl, rfl⟩)
          | (go_at_call 16; refine (rnext_calls hR hl.out hC.pos hn2.out hC.all hC.next).mono ?_; rintro e w' ⟨rfl, hb⟩))
        go_ret
        exact ⟨rfl, hB.trans (hb.mono hB.size)⟩

end Go.Proofs.Ytlcchpjficbgmaa
