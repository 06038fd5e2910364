/- An argument of a law, opened: a message. -/
import Derived.Test.YtfcacplecapgfaaLE
import Derived.Test.YtfcacplecapgfaaLK
import Derived.Test.YtfcacplecapgfaaG2
namespace Go.Proofs.Ytfcacplecapgfaa
open Go.ChangeShapes Go.WideShapes Go.ChangeAt Go.RowKit Go.Deep
set_option linter.unusedVariables false
set_option linter.unusedSimpArgs false
variable {H : Type} {enc : TypeId × Value → H} {W : World}

set_option maxRecDepth 100000 in
theorem core_vote {fuel : Nat} {cs : List Value} {d : DataW H} {p : List MemPlace}
    (hf : DataW.trod enc Try.prog W 0 (fun _ => true) true fuel 74 cs = some (d, p)) (hs : SmallD Try.prog 74 d) : ∃ v, VtIs W cs v ∧ (Lit.int .i64 v.1).wf = true := by
  obtain ⟨xs, n, _, hx, hlen, hxl, hg⟩ := DataW.trod_struct Try.underlying74 hf
  have h14 : Try.prog.cellsOf 74 = 14 := by kernel_rfl
  have c3 : Try.prog.cellsOf 3 = 1 := by kernel_rfl
  have c27 : Try.prog.cellsOf 27 = 12 := by kernel_rfl
  obtain ⟨a0, a1, rest, rfl⟩ : ∃ a0 a1 rest, cs = a0 :: a1 :: rest := by
    match cs, hlen.trans h14 with
    | a0 :: a1 :: rest, _ => exact ⟨a0, a1, rest, rfl⟩
  obtain ⟨x0, x1, x2, rfl⟩ : ∃ x0 x1 x2, xs = [x0, x1, x2] := by
    match xs, hxl with
    | [x0, x1, x2], _ => exact ⟨x0, x1, x2, rfl⟩
  have hr : rest.length = 12 := by have := hlen.trans h14; simpa using this
  have g0 : DataW.trod enc Try.prog W 0 (fun _ => true) true n 3 [a0] = some x0 := by simpa [c3] using hg 0 _ rfl
  have g1 : DataW.trod enc Try.prog W 0 (fun _ => true) true n 3 [a1] = some x1 := by simpa [c3] using hg 1 _ rfl
  have g2 : DataW.trod enc Try.prog W 0 (fun _ => true) true n 27 rest = some x2 := by
    have := hg 2 _ rfl
    have ht : (List.drop 2 (a0 :: a1 :: rest)).take (Try.prog.cellsOf 27) = rest := by rw [c27]; exact List.take_of_length_le (by show rest.length ≤ 12; omega)
    exact ht ▸ this
  obtain ⟨i0, e0, _, w0⟩ := DataW.trod_int Try.underlying3 g0
  obtain ⟨i1, e1, _, _⟩ := DataW.trod_int Try.underlying3 g1
  simp only [Prod.mk.injEq, List.map_cons, List.map_nil] at hx
  obtain ⟨rfl, rfl⟩ := hx
  obtain ⟨x, A, c, rfl, hA, hlc, hnil, hmax, h1, h2⟩ := core_cmd g2 (hs.field (j := 2) Try.underlying74 rfl rfl)
  simp only [List.cons.injEq, and_true] at e0 e1
  subst e0 e1
  exact ⟨(i0, i1, x), ⟨A, c, rfl, hA, hnil, hmax, h1, h2⟩, w0⟩

theorem weights_mem_all' {P : Program} {e : TypeId} : ∀ {l : List (DataW H)} {d : DataW H}, d ∈ l → ∀ n ∈ d.weights P e, n ∈ DataW.weightsAll P e l
  | [], _, h => by cases h
  | x :: r, d, h => by
    intro n hn
    rw [DataW.weightsAll]
    rcases List.mem_cons.1 h with rfl | h
    · exact List.mem_append_left _ hn
    · exact List.mem_append_right _ (weights_mem_all' h n hn)
theorem SmallD.len {P : Program} {t e : TypeId} {l r : List (DataW H)} (h : SmallD P t (.slice l r)) (ht : P.underlying t = some (.slice e)) : (l.length + r.length) * P.bytesOf e ≤ reachBytes := by
  apply h
  simp [DataW.weights, ht]
theorem SmallD.elem {P : Program} {t e : TypeId} {l r : List (DataW H)} (h : SmallD P t (.slice l r)) (ht : P.underlying t = some (.slice e)) {d : DataW H} (hd : d ∈ l) : SmallD P e d := by
  intro n hn
  apply h
  simp only [DataW.weights, ht]
  exact List.mem_cons_of_mem _ (List.mem_append_left _ (weights_mem_all' hd n hn))
theorem votes_range {b off : Nat} : ∀ (len : Nat), (∀ i, i < len → ∃ cs v, VtIs W cs v ∧ (Lit.int .i64 v.1).wf = true ∧ ∀ j, j < 14 → W.cell? ⟨b, off + i * 14 + j, none⟩ = cs[j]?) →
    ∃ vs V, V.length = len ∧ Vts W vs V ∧ At W (some ⟨b, off, none⟩) vs ∧ ∀ v, v ∈ V → (Lit.int .i64 v.1).wf = true
  | 0, _ => ⟨[], [], rfl, rfl, At.nil _ _, fun v hv => (by cases hv)⟩
  | len + 1, h => by
    obtain ⟨vs, V, hl, hV, hA, hW⟩ := votes_range len fun i hi => h i (by omega)
    obtain ⟨cs, v, hv, hw, hc⟩ := h len (by omega)
    refine ⟨vs ++ cs, V ++ [v], by simp [hl], Vts.snoc hv V vs hV, ?_, fun u hu => (List.mem_append.1 hu).elim (hW u) (fun hu => by simp at hu; subst hu; exact hw)⟩
    have hlv := Vts.length V vs hV
    have h14 := hv.len
    intro i x hx
    rcases Nat.lt_or_ge i vs.length with hi | hi
    · rw [List.getElem?_append_left hi] at hx
      exact hA i x hx
    · rw [List.getElem?_append_right hi] at hx
      have hj : i - vs.length < 14 := by
        rcases Nat.lt_or_ge (i - vs.length) 14 with h | h
        · exact h
        · rw [List.getElem?_eq_none (by omega)] at hx; cases hx
      refine ⟨b, off, rfl, ?_⟩
      rw [show off + i = off + len * 14 + (i - vs.length) by omega, hc _ hj, hx]


set_option maxRecDepth 100000 in
theorem core_votes {fuel : Nat} {cs : List Value} {d : DataW H} {p : List MemPlace}
    (hf : DataW.trod enc Try.prog W 0 (fun _ => true) true fuel 38 cs = some (d, p)) (hs : SmallD Try.prog 38 d) :
    ∃ A c vs V, cs = [.slice A (V : List Vt).length c] ∧ At W A vs ∧ Vts W vs V ∧ V.length ≤ 140737488351232 := by
  have c53 : Try.prog.cellsOf 74 = 14 := by kernel_rfl
  rcases open_slice Try.underlying38 hf with ⟨hcs, hx⟩ | ⟨a, n, c, m, fu, D, Pl, hcs, hb, hl, hm, hmm, hx, hi⟩
  · subst hcs
    exact ⟨none, 0, [], [], rfl, At.nil _ _, rfl, by decide⟩
  · have hspare : m = c := by simpa using hmm
    subst hspare
    subst hcs
    simp only [Prod.mk.injEq] at hx
    obtain ⟨rfl, rfl⟩ := hx
    have hbT : Try.prog.bytesOf 74 = 136 := by kernel_rfl
    have hlen := hs.len Try.underlying38
    rw [hbT] at hlen
    obtain ⟨b, off, spot⟩ := a
    have hcell : ∀ i, i < n → ∃ cs v, VtIs W cs v ∧ (Lit.int .i64 v.1).wf = true ∧ ∀ j, j < 14 → W.cell? (Addr.add ⟨b, off, spot⟩ (i * 14 + j)) = cs[j]? := by
      intro i hi'
      obtain ⟨cs, h1, h2⟩ := hi i (by omega)
      rw [c53] at h1
      obtain ⟨_, hl14, hcs⟩ := World.cells?_some h1
      obtain ⟨v, hv, hw⟩ := core_vote h2 (hs.elem Try.underlying38 (List.mem_map.2 ⟨i, List.mem_range.2 hi', rfl⟩))
      refine ⟨cs, v, hv, hw, fun j hj => ?_⟩
      rw [← hcs j (by omega), add_add]
    by_cases hn0 : n = 0
    · subst hn0
      exact ⟨_, _, [], [], rfl, At.nil _ _, rfl, by decide⟩
    · have hspot : spot = none := by
        obtain ⟨cs, v, hv, _, hc⟩ := hcell 0 (by omega)
        have := hc 0 (by omega)
        have h14 := hv.len
        rw [List.getElem?_eq_getElem (by omega)] at this
        simpa [Addr.add] using World.cell?_spot this
      subst hspot
      obtain ⟨vs, V, hl', hV, hA, hW⟩ := votes_range (W := W) (b := b) (off := off) n fun i hi' => by
        obtain ⟨cs, v, hv, hw, hc⟩ := hcell i hi'
        exact ⟨cs, v, hv, hw, fun j hj => by rw [← hc j hj, add_plain, Nat.add_assoc]⟩
      refine ⟨_, _, vs, V, by rw [hl'], hA, hV, ?_⟩
      simp only [List.length_map, List.length_range, reachBytes] at hlen
      omega
set_option maxRecDepth 100000 in
theorem core_bytes {fuel : Nat} {cs : List Value} {d : DataW H} {p : List MemPlace}
    (hf : DataW.trod enc Try.prog W 0 (fun _ => true) true fuel 28 cs = some (d, p)) (hs : SmallD Try.prog 28 d) :
    ∃ A c l, cs = [.slice A (l : List B8).length c] ∧ At W A (bys l) ∧ (A = none → c = 0) ∧ l.length ≤ 140737488351232 := by
  have hc : Try.prog.cellsOf 5 = 1 := by kernel_rfl
  have hby : Try.prog.bytesOf 5 = 1 := by kernel_rfl
  rcases open_ints Try.underlying28 Try.underlying5 hc hf with ⟨hcs, hx⟩ | ⟨a, n, c, zs, hcs, _, hl, hm, hz, hx, hcell, hwz⟩
  · subst hcs
    exact ⟨none, 0, [], rfl, At.nil _ _, fun _ => rfl, by decide⟩
  · subst hcs
    simp only [Prod.mk.injEq] at hx
    obtain ⟨rfl, rfl⟩ := hx
    simp only [if_true] at hz
    obtain ⟨l, hl'⟩ := bytes_of_ints (zs.take n) fun m hm => hwz m (List.mem_of_mem_take hm)
    have hlen : l.length = n := by
      have := congrArg List.length hl'
      simp at this; omega
    refine ⟨some a, c, l, by rw [hlen], ?_, fun h => (by cases h), ?_⟩
    · intro i x hx
      rw [← hl', List.getElem?_map, List.getElem?_take] at hx
      have hi : i < n := by
        rcases Nat.lt_or_ge i n with h | h
        · exact h
        · rw [if_neg (by omega)] at hx; simp at hx
      rw [if_pos hi] at hx
      have hc0 := hcell 0 (by omega)
      obtain ⟨b, off, spot⟩ := a
      have hspot : spot = none := by simpa [Addr.add] using World.cell?_spot hc0
      subst hspot
      refine ⟨b, off, rfl, ?_⟩
      rw [← add_plain, hcell i (by omega)]
      rw [List.getElem?_eq_getElem (by omega)] at hx
      simp only [Option.map_some, Option.some.injEq] at hx
      rw [← hx, List.getD_eq_getElem?_getD, List.getElem?_eq_getElem (by omega)]
      rfl
    · have := hs ((lits (H := H) .u8 (zs.take n)).length * 1 + (lits (H := H) .u8 (zs.drop n)).length * 1) (by
        simp only [DataW.weights, Try.underlying28, hby]
        rw [Nat.add_mul]
        exact List.mem_cons_self ..)
      simp only [lits, List.length_map, List.length_take, List.length_drop, reachBytes] at this
      omega

theorem list24 {α : Type} {l : List α} (h : l.length = 24) : ∃ a0 a1 a2 a3 a4 a5 a6 a7 a8 a9 r v b, l = a0 :: a1 :: a2 :: a3 :: a4 :: a5 :: a6 :: a7 :: a8 :: a9 :: (r ++ [v, b]) ∧ r.length = 12 := by
  match l, h with
  | [a0, a1, a2, a3, a4, a5, a6, a7, a8, a9, c0, c1, c2, c3, c4, c5, c6, c7, c8, c9, c10, c11, v, b], _ => exact ⟨a0, a1, a2, a3, a4, a5, a6, a7, a8, a9, [c0, c1, c2, c3, c4, c5, c6, c7, c8, c9, c10, c11], v, b, rfl, rfl⟩
theorem list13 {α : Type} {l : List α} (h : l.length = 13) : ∃ a0 a1 a2 a3 a4 a5 a6 a7 a8 a9 a10 a11 a12, l = [a0, a1, a2, a3, a4, a5, a6, a7, a8, a9, a10, a11, a12] := by
  match l, h with
  | [a0, a1, a2, a3, a4, a5, a6, a7, a8, a9, a10, a11, a12], _ => exact ⟨a0, a1, a2, a3, a4, a5, a6, a7, a8, a9, a10, a11, a12, rfl⟩
set_option maxHeartbeats 2000000 in
set_option maxRecDepth 100000 in
theorem core_msg {fuel : Nat} {cs : List Value} {d : DataW H} {p : List MemPlace}
    (hf : DataW.trod enc Try.prog W 0 (fun _ => true) true fuel 40 cs = some (d, p)) (hs : SmallD Try.prog 40 d) :
    ∃ (m : Mg) (A V B : Option Addr) (n e f : Nat), cs = [.int .i64 m.h.kind, .int .i64 m.h.frm, .int .i64 m.h.to, .int .i64 m.h.ballot, .int .i64 m.h.slot, .int .i64 m.h.blob, .int .i64 m.h.index, .int .i64 m.h.epoch, .int .i64 m.h.id, .bool m.h.ok, .int .i64 m.h.cmd.id, .int .i64 m.h.cmd.kind, .string m.h.cmd.key, .int .i64 m.h.cmd.blob, .int .i64 m.h.cmd.other, .int .i64 m.h.cmd.index, .int .i64 m.h.cmd.node, .int .i64 m.h.cmd.size, .int .u32 m.h.cmd.sum, .int .i64 m.h.cmd.k, .int .i64 m.h.cmd.m, .slice A m.cn.length n, .slice V m.vs.length e, .slice B m.bs.length f] ∧ MgAt W A n V B f m := by
  obtain ⟨xs, n, _, hx, hlen, hxl, hg⟩ := DataW.trod_struct Try.underlying40 hf
  have h24 : Try.prog.cellsOf 40 = 24 := by kernel_rfl
  have c3 : Try.prog.cellsOf 3 = 1 := by kernel_rfl
  have c4 : Try.prog.cellsOf 4 = 1 := by kernel_rfl
  have c27 : Try.prog.cellsOf 27 = 12 := by kernel_rfl
  have c38 : Try.prog.cellsOf 38 = 1 := by kernel_rfl
  have c28 : Try.prog.cellsOf 28 = 1 := by kernel_rfl
  obtain ⟨a0, a1, a2, a3, a4, a5, a6, a7, a8, a9, r, v, b, rfl, hr⟩ := list24 (hlen.trans h24)
  obtain ⟨x0, x1, x2, x3, x4, x5, x6, x7, x8, x9, x10, x11, x12, rfl⟩ := list13 (by simpa using hxl)
  have g0 : DataW.trod enc Try.prog W 0 (fun _ => true) true n 3 [a0] = some x0 := by simpa [c3] using hg 0 _ rfl
  have g1 : DataW.trod enc Try.prog W 0 (fun _ => true) true n 3 [a1] = some x1 := by simpa [c3] using hg 1 _ rfl
  have g2 : DataW.trod enc Try.prog W 0 (fun _ => true) true n 3 [a2] = some x2 := by simpa [c3] using hg 2 _ rfl
  have g3 : DataW.trod enc Try.prog W 0 (fun _ => true) true n 3 [a3] = some x3 := by simpa [c3] using hg 3 _ rfl
  have g4 : DataW.trod enc Try.prog W 0 (fun _ => true) true n 3 [a4] = some x4 := by simpa [c3] using hg 4 _ rfl
  have g5 : DataW.trod enc Try.prog W 0 (fun _ => true) true n 3 [a5] = some x5 := by simpa [c3] using hg 5 _ rfl
  have g6 : DataW.trod enc Try.prog W 0 (fun _ => true) true n 3 [a6] = some x6 := by simpa [c3] using hg 6 _ rfl
  have g7 : DataW.trod enc Try.prog W 0 (fun _ => true) true n 3 [a7] = some x7 := by simpa [c3] using hg 7 _ rfl
  have g8 : DataW.trod enc Try.prog W 0 (fun _ => true) true n 3 [a8] = some x8 := by simpa [c3] using hg 8 _ rfl
  have g9 : DataW.trod enc Try.prog W 0 (fun _ => true) true n 4 [a9] = some x9 := by simpa [c4] using hg 9 _ rfl
  have g10 : DataW.trod enc Try.prog W 0 (fun _ => true) true n 27 r = some x10 := by
    have := hg 10 _ rfl
    have ht : ((a0 :: a1 :: a2 :: a3 :: a4 :: a5 :: a6 :: a7 :: a8 :: a9 :: (r ++ [v, b])).drop 10).take (Try.prog.cellsOf 27) = r := by
      rw [c27]
      show (r ++ [v, b]).take 12 = r
      rw [List.take_append_of_le_length (by omega), List.take_of_length_le (by omega)]
    exact ht ▸ this
  have g11 : DataW.trod enc Try.prog W 0 (fun _ => true) true n 38 [v] = some x11 := by
    have := hg 11 _ rfl
    have ht : ((a0 :: a1 :: a2 :: a3 :: a4 :: a5 :: a6 :: a7 :: a8 :: a9 :: (r ++ [v, b])).drop 22).take (Try.prog.cellsOf 38) = [v] := by
      rw [c38]
      show ((r ++ [v, b]).drop 12).take 1 = [v]
      rw [List.drop_append_of_le_length (by omega), List.drop_of_length_le (by omega)]; rfl
    exact ht ▸ this
  have g12 : DataW.trod enc Try.prog W 0 (fun _ => true) true n 28 [b] = some x12 := by
    have := hg 12 _ rfl
    have ht : ((a0 :: a1 :: a2 :: a3 :: a4 :: a5 :: a6 :: a7 :: a8 :: a9 :: (r ++ [v, b])).drop 23).take (Try.prog.cellsOf 28) = [b] := by
      rw [c28]
      show ((r ++ [v, b]).drop 13).take 1 = [b]
      rw [show (r ++ [v, b]).drop 13 = [b] by
        rw [List.drop_append, List.drop_of_length_le (by omega), hr]; rfl]
      rfl
    exact ht ▸ this
  obtain ⟨i0, e0, _, _⟩ := DataW.trod_int Try.underlying3 g0
  obtain ⟨i1, e1, _, _⟩ := DataW.trod_int Try.underlying3 g1
  obtain ⟨i2, e2, _, _⟩ := DataW.trod_int Try.underlying3 g2
  obtain ⟨i3, e3, _, _⟩ := DataW.trod_int Try.underlying3 g3
  obtain ⟨i4, e4, _, _⟩ := DataW.trod_int Try.underlying3 g4
  obtain ⟨i5, e5, _, _⟩ := DataW.trod_int Try.underlying3 g5
  obtain ⟨i6, e6, _, _⟩ := DataW.trod_int Try.underlying3 g6
  obtain ⟨i7, e7, _, _⟩ := DataW.trod_int Try.underlying3 g7
  obtain ⟨i8, e8, _, _⟩ := DataW.trod_int Try.underlying3 g8
  obtain ⟨ok, e9, _⟩ := DataW.trod_bool Try.underlying4 g9
  simp only [Prod.mk.injEq, List.map_cons, List.map_nil] at hx
  obtain ⟨rfl, rfl⟩ := hx
  obtain ⟨x, A, c, e10, hA, hlc, hnil, hmax, h1, h2⟩ := core_cmd g10 (hs.field (j := 10) Try.underlying40 rfl rfl)
  obtain ⟨V, ve, us, VV, e11, hV, hVV, hVm⟩ := core_votes g11 (hs.field (j := 11) Try.underlying40 rfl rfl)
  obtain ⟨B, be, l, e12, hB, hBn, hBm⟩ := core_bytes g12 (hs.field (j := 12) Try.underlying40 rfl rfl)
  simp only [List.cons.injEq, and_true] at e0 e1 e2 e3 e4 e5 e6 e7 e8 e9 e11 e12
  subst e0 e1 e2 e3 e4 e5 e6 e7 e8 e9 e10 e11 e12
  exact ⟨⟨⟨i0, i1, i2, i3, i4, i5, i6, i7, i8, ok, x.1⟩, x.2, VV, l⟩, A, V, B, c, ve, be, rfl, ⟨hA, hnil, hmax, ⟨us, hV, hVV⟩, hVm, hB, hBn, hBm, h1, h2⟩⟩

theorem open_msg {r : Reach} {b0 : Nat} {v : Value} {d : DataW H} {p : List MemPlace} {ts : List TypeId} {ds : List (DataW H)} {j : Nat}
    (hv : Value.okWide Try.prog W r b0 40 v) (h : DataW.Trod enc Try.prog W 0 (fun _ => true) true 40 v d p)
    (hsz : (DataW.weightsEach Try.prog ts ds).all (· ≤ reachBytes) = true) (hj : ts[j]? = some 40) (hd : ds[j]? = some d) :
    ∃ (m : Mg) (A V B : Option Addr) (n e f : Nat), v = .agg #[.int .i64 m.h.kind, .int .i64 m.h.frm, .int .i64 m.h.to, .int .i64 m.h.ballot, .int .i64 m.h.slot, .int .i64 m.h.blob, .int .i64 m.h.index, .int .i64 m.h.epoch, .int .i64 m.h.id, .bool m.h.ok, .int .i64 m.h.cmd.id, .int .i64 m.h.cmd.kind, .string m.h.cmd.key, .int .i64 m.h.cmd.blob, .int .i64 m.h.cmd.other, .int .i64 m.h.cmd.index, .int .i64 m.h.cmd.node, .int .i64 m.h.cmd.size, .int .u32 m.h.cmd.sum, .int .i64 m.h.cmd.k, .int .i64 m.h.cmd.m, .slice A m.cn.length n, .slice V m.vs.length e, .slice B m.bs.length f] ∧ MgAt W A n V B f m := by
  obtain ⟨cs, rfl, hsz'⟩ := okWide_struct Try.underlying40 hv
  obtain ⟨fuel, hf⟩ := h
  obtain ⟨m, A, V, B, n, e, f, h1, hm⟩ := core_msg hf (smallD_at hsz hj hd)
  refine ⟨m, A, V, B, n, e, f, ?_, hm⟩
  have : cs.toList = _ := h1
  rw [← Array.toArray_toList (xs := cs), this]
end Go.Proofs.Ytfcacplecapgfaa
