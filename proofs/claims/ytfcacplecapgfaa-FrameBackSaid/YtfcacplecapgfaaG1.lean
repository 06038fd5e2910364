/- Votes and messages: vocabulary; SameVote, slices.EqualFunc of votes that are the same. -/
import Derived.Test.YtfcacplecapgfaaE20
namespace Go.Proofs.Ytfcacplecapgfaa
open Go.RowKit
set_option linter.unusedVariables false
set_option linter.unusedSimpArgs false


theorem mod_nat (n0 : Int) (k : Nat) (hk : 0 < k) (hk2 : k ≤ 1000000) : ∃ N : Nat, N < k ∧ wrap64 ((IntKind.u64.wrap n0).tmod (k : Int)) = (N : Int) := by
  have h0 : 0 ≤ IntKind.u64.wrap n0 := by rw [IntKind.wrap_u64]; omega
  have h1 : (IntKind.u64.wrap n0).tmod (k : Int) = IntKind.u64.wrap n0 % (k : Int) := Int.tmod_eq_emod_of_nonneg h0
  have h2 := Int.emod_nonneg (IntKind.u64.wrap n0) (by omega : (k : Int) ≠ 0)
  have h3 := Int.emod_lt_of_pos (IntKind.u64.wrap n0) (by omega : (0 : Int) < k)
  rw [h1]
  generalize IntKind.u64.wrap n0 % (k : Int) = r at *
  refine ⟨r.toNat, by omega, ?_⟩
  unfold wrap64
  omega

/-- A struct is read from cells. -/
theorem run_loadVar_at {P : Program} {w : World} {A : Addr} {ty : TypeId} {cs : List Value} {d : TypeDesc} (hA : At w (some A) cs)
    (hu : P.underlying ty = some d) (hd : (match d with | .struct _ | .array _ _ => true | _ => false) = true) (hi : (P.info? ty).map (·.size) = some cs.length) :
    (loadVar ty A).run P w = .ok (.agg cs.toArray) w := by
  have hl := run_loadAt (P := P) w hA
  cases hq : P.info? ty with
  | none => simp [hq] at hi
  | some i =>
    have hs : i.size = cs.length := by simpa [hq] using hi
    have hagg : (isAgg ty).run P w = .ok true w := by
      unfold isAgg
      rw [Sem.run_bind, run_underlying hu w]
      cases d <;> simp_all
    simp [loadVar, Sem.run_bind, hagg, sizeOf, typeInfo, hq, hs, hl]
theorem wp_load_at {P : Program} {o : Oper} {a : Act} {w : World} {K : Act → World → Prop} {Q : Exit → Act → World → Prop} (ty : TypeId) (x : Operand) (ho : o.op = .load ty x)
    {A : Addr} (hx : a.eval x = .pointer (some A)) {cs : List Value} {d : TypeDesc} (hA : At w (some A) cs)
    (hu : P.underlying ty = some d) (hd : (match d with | .struct _ | .array _ _ => true | _ => false) = true) (hi : (P.info? ty).map (·.size) = some cs.length)
    (h : K (a.put o.dst (.agg cs.toArray)) w) : o.wp P a w K Q := by
  unfold Oper.wp execOp
  simp only [ho, hx, Instr.loadAt, Instr.sureAddr, Sem.run_bind, Sem.run_pure, Result.andThen_ok, run_loadVar_at hA hu hd hi]
  exact h
theorem wpList_load_at {P : Program} {ops : Array Oper} {rest : List Oper} {o : Oper} {a : Act} {w : World} {Q : Exit → Act → World → Prop} (hgd : o.guard = none) (ty : TypeId) (x : Operand) (ho : o.op = .load ty x)
    {A : Addr} (hx : a.eval x = .pointer (some A)) {cs : List Value} {d : TypeDesc} (hA : At w (some A) cs)
    (hu : P.underlying ty = some d) (hd : (match d with | .struct _ | .array _ _ => true | _ => false) = true) (hi : (P.info? ty).map (·.size) = some cs.length)
    (h : wpList P ops Q rest (a.put o.dst (.agg cs.toArray)) w) : wpList P ops Q (o :: rest) a w :=
  wpList_plain hgd fun _ hK => wp_load_at ty x ho hx hA hu hd hi (hK _ _ h)


def SumOk (c : Cm) : Prop := 0 ≤ c.sum ∧ c.sum < 4294967296
theorem some_of_at {w : World} {A : Option Addr} {vs : List Value} (h : At w A vs) (hl : 0 < vs.length) : ∃ b off, A = some ⟨b, off, none⟩ := by
  obtain ⟨b, off, he, _⟩ := h 0 vs[0] (by simp [hl])
  exact ⟨b, off, he⟩
abbrev Vt := Int × Int × Cd
/-- Fourteen cells read as a vote. -/
def VtIs (W : World) (cs : List Value) (v : Vt) : Prop :=
  ∃ A d, cs = (#[.int .i64 v.1, .int .i64 v.2.1, .int .i64 v.2.2.1.id, .int .i64 v.2.2.1.kind, .string v.2.2.1.key, .int .i64 v.2.2.1.blob, .int .i64 v.2.2.1.other, .int .i64 v.2.2.1.index, .int .i64 v.2.2.1.node, .int .i64 v.2.2.1.size, .int .u32 v.2.2.1.sum, .int .i64 v.2.2.1.k, .int .i64 v.2.2.1.m, .slice A v.2.2.2.length d]).toList ∧ At W A (ints v.2.2.2) ∧ (A = none → d = 0) ∧ v.2.2.2.length * 8 ≤ 140737488351232 ∧ SumOk v.2.2.1
def Vts (W : World) : List Value → List Vt → Prop
  | vs, [] => vs = []
  | vs, v :: V => ∃ cs rest, vs = cs ++ rest ∧ VtIs W cs v ∧ Vts W rest V
theorem VtIs.len {W : World} {cs : List Value} {v : Vt} (h : VtIs W cs v) : cs.length = 14 := by
  obtain ⟨A, d, rfl, _⟩ := h; rfl
theorem VtIs.below {W w : World} {cs : List Value} {v : Vt} (h : VtIs W cs v) (hb : Below W.heap.size W w) : VtIs w cs v := by
  obtain ⟨A, d, h1, h2, r⟩ := h; exact ⟨A, d, h1, h2.below hb, r⟩
theorem Vts.length {W : World} : ∀ (V : List Vt) (vs : List Value), Vts W vs V → vs.length = V.length * 14
  | [], vs, h => by cases h; rfl
  | v :: V, vs, h => by
    obtain ⟨cs, rest, rfl, h1, h2⟩ := h
    have := Vts.length V rest h2
    have := h1.len
    simp; omega
theorem Vts.snoc {W : World} {v : Vt} {cs : List Value} (hv : VtIs W cs v) : ∀ (V : List Vt) (vs : List Value), Vts W vs V → Vts W (vs ++ cs) (V ++ [v])
  | [], vs, h => by cases h; exact ⟨cs, [], by simp, hv, rfl⟩
  | y :: V, vs, h => by
    obtain ⟨c', rest, rfl, h1, h2⟩ := h
    exact ⟨c', rest ++ cs, by rw [List.append_assoc], h1, Vts.snoc hv V rest h2⟩
theorem Vts.at' {W w : World} {b off : Nat} : ∀ (V : List Vt) (vs : List Value) (k : Nat) (v : Vt), Vts W vs V → At w (some ⟨b, off, none⟩) vs → V[k]? = some v →
    ∃ cs, VtIs W cs v ∧ At w (some ⟨b, off + k * 14, none⟩) cs
  | [], vs, k, v, _, _, h => by simp at h
  | y :: V, vs, 0, v, hv, hA, h => by
    obtain ⟨cs, rest, rfl, h1, h2⟩ := hv
    simp at h
    subst h
    exact ⟨cs, h1, by simpa using hA.append⟩
  | y :: V, vs, k + 1, v, hv, hA, h => by
    obtain ⟨cs, rest, rfl, h1, h2⟩ := hv
    have hr : At w (some ⟨b, off + 14, none⟩) rest := by
      intro i u hu
      obtain ⟨b', o', he, hc⟩ := hA (14 + i) u (by rw [List.getElem?_append_right (by have := h1.len; omega)]; have := h1.len; simpa [this] using hu)
      simp only [Option.some.injEq, Addr.mk.injEq, and_true] at he
      obtain ⟨rfl, rfl⟩ := he
      exact ⟨_, _, rfl, by rw [Nat.add_assoc]; exact hc⟩
    obtain ⟨c', r1, r2⟩ := Vts.at' V rest k v h2 hr (by simpa using h)
    exact ⟨c', r1, by rw [show off + (k + 1) * 14 = off + 14 + k * 14 by omega]; exact r2⟩


theorem Vts.below {W w : World} (hb : Below W.heap.size W w) : ∀ (V : List Vt) (vs : List Value), Vts W vs V → Vts w vs V
  | [], vs, h => h
  | v :: V, vs, h => by
    obtain ⟨cs, rest, rfl, h1, h2⟩ := h
    exact ⟨cs, rest, rfl, h1.below hb, Vts.below hb V rest h2⟩
theorem vcells_of {w : World} {g : Nat} {s b : Int} {c : Cm} {v : Value} {t : TypeId} {fz : Nat × Nat} (h : w.heap[g]? = some (.cells #[.int .i64 s, .int .i64 b, .int .i64 c.id, .int .i64 c.kind, .string c.key, .int .i64 c.blob, .int .i64 c.other, .int .i64 c.index, .int .i64 c.node, .int .i64 c.size, .int .u32 c.sum, .int .i64 c.k, .int .i64 c.m, v] t fz)) : w.cell? ⟨g, 0, none⟩ = some (.int .i64 s) ∧ w.cell? ⟨g, 1, none⟩ = some (.int .i64 b) ∧ w.cell? ⟨g, 2, none⟩ = some (.int .i64 c.id) ∧ w.cell? ⟨g, 3, none⟩ = some (.int .i64 c.kind) ∧ w.cell? ⟨g, 4, none⟩ = some (.string c.key) ∧ w.cell? ⟨g, 5, none⟩ = some (.int .i64 c.blob) ∧ w.cell? ⟨g, 6, none⟩ = some (.int .i64 c.other) ∧ w.cell? ⟨g, 7, none⟩ = some (.int .i64 c.index) ∧ w.cell? ⟨g, 8, none⟩ = some (.int .i64 c.node) ∧ w.cell? ⟨g, 9, none⟩ = some (.int .i64 c.size) ∧ w.cell? ⟨g, 10, none⟩ = some (.int .u32 c.sum) ∧ w.cell? ⟨g, 11, none⟩ = some (.int .i64 c.k) ∧ w.cell? ⟨g, 12, none⟩ = some (.int .i64 c.m) ∧ w.cell? ⟨g, 13, none⟩ = some v :=
  ⟨cell_of_row _ _ 0 _ _ _ h, cell_of_row _ _ 1 _ _ _ h, cell_of_row _ _ 2 _ _ _ h, cell_of_row _ _ 3 _ _ _ h, cell_of_row _ _ 4 _ _ _ h, cell_of_row _ _ 5 _ _ _ h, cell_of_row _ _ 6 _ _ _ h, cell_of_row _ _ 7 _ _ _ h, cell_of_row _ _ 8 _ _ _ h, cell_of_row _ _ 9 _ _ _ h, cell_of_row _ _ 10 _ _ _ h, cell_of_row _ _ 11 _ _ _ h, cell_of_row _ _ 12 _ _ _ h, cell_of_row _ _ 13 _ _ _ h⟩
/-- Two boxes. -/
theorem any2_boxes (w : World) (cs ds : Array Value) (T : TypeId) : ∃ w3, w3 = (w.alloc (.cells cs T)).alloc (.cells ds T) ∧ Below w.heap.size w w3 ∧
    w3.heap[w.heap.size]? = some (.cells cs T (0, 0)) ∧ w3.heap[w.heap.size + 1]? = some (.cells ds T (0, 0)) := by
  refine ⟨_, rfl, ?_⟩
  have hb1 := below1' w (.cells cs T)
  have h1 : (w.alloc (.cells cs T)).heap[w.heap.size]? = some (.cells cs T (0, 0)) := heap_alloc_new w _
  have hs1 : (w.alloc (.cells cs T)).heap.size = w.heap.size + 1 := by simp
  generalize w.alloc (.cells cs T) = wa at *
  have hb2 := below1' wa (.cells ds T)
  have h2 : (wa.alloc (.cells ds T)).heap[wa.heap.size]? = some (.cells ds T (0, 0)) := heap_alloc_new wa _
  rw [hs1] at h2
  exact ⟨hb1.trans (hb2.mono (by omega)), (hb2.block w.heap.size (by omega)).trans h1, h2⟩

theorem below2w (w : World) (cs ds : Array Value) (T : TypeId) : Below w.heap.size w ((w.alloc (.cells cs T)).alloc (.cells ds T)) := by
  obtain ⟨w3, rfl, h, _⟩ := any2_boxes w cs ds T
  exact h

set_option maxHeartbeats 4000000 in
set_option maxRecDepth 100000 in
theorem svote_calls {w : World} {s b : Int} {c : Cm} {l : List Int} {A B : Option Addr} {d d' : Nat} (hA : At w A (ints l)) (hB : At w B (ints l)) (hmax : l.length * 8 ≤ 140737488355328) :
    Calls Try.prog 44 #[.agg #[.int .i64 s, .int .i64 b, .int .i64 c.id, .int .i64 c.kind, .string c.key, .int .i64 c.blob, .int .i64 c.other, .int .i64 c.index, .int .i64 c.node, .int .i64 c.size, .int .u32 c.sum, .int .i64 c.k, .int .i64 c.m, .slice A l.length d], .agg #[.int .i64 s, .int .i64 b, .int .i64 c.id, .int .i64 c.kind, .string c.key, .int .i64 c.blob, .int .i64 c.other, .int .i64 c.index, .int .i64 c.node, .int .i64 c.size, .int .u32 c.sum, .int .i64 c.k, .int .i64 c.m, .slice B l.length d']] w (RetV w (.bool true)) := by
  obtain ⟨w3, hw3, hB3, hr3, hs3⟩ := any2_boxes w #[.int .i64 s, .int .i64 b, .int .i64 c.id, .int .i64 c.kind, .string c.key, .int .i64 c.blob, .int .i64 c.other, .int .i64 c.index, .int .i64 c.node, .int .i64 c.size, .int .u32 c.sum, .int .i64 c.k, .int .i64 c.m, .slice A l.length d] #[.int .i64 s, .int .i64 b, .int .i64 c.id, .int .i64 c.kind, .string c.key, .int .i64 c.blob, .int .i64 c.other, .int .i64 c.index, .int .i64 c.node, .int .i64 c.size, .int .u32 c.sum, .int .i64 c.k, .int .i64 c.m, .slice B l.length d'] 74
  have HW := Lib.hid hw3
  have HN := Lib.hid (psame_calls (c := c) (a := d) (b := d') (hA.below hB3) (hB.below hB3) rfl hmax)
  have e := vcells_of hr3
  obtain ⟨e0, e1, e2, e3, e4, e5, e6, e7, e8, e9, e10, e11, e12, e13⟩ := e
  have z := vcells_of hs3
  obtain ⟨z0, z1, z2, z3, z4, z5, z6, z7, z8, z9, z10, z11, z12, z13⟩ := z
  rw [hw3] at e0 e1 e2 e3 e4 e5 e6 e7 e8 e9 e10 e11 e12 e13 z0 z1 z2 z3 z4 z5 z6 z7 z8 z9 z10 z11 z12 z13
  clear hw3 hr3 hs3 hA hB hmax
  go_enter Try.func44, Try.ntmps44
  go_wp2_with fail
  have hw3 := HW.out
  rw [← hw3]
  clear hw3 HW e0 e1 e2 e3 e4 e5 e6 e7 e8 e9 e10 e11 e12 e13 z0 z1 z2 z3 z4 z5 z6 z7 z8 z9 z10 z11 z12 z13
  refine HN.out.mono ?_
  rintro e w4 ⟨rfl, hb4⟩
  go_wp2_with fail
  go_ret
  exact ⟨by simp, hB3.trans (hb4.mono hB3.size)⟩

set_option maxHeartbeats 4000000 in
set_option maxRecDepth 100000 in
theorem eqvotes_calls {w : World} {A B : Option Addr} {c d : Nat} {vs us : List Value} {V : List Vt} (hA : At w A vs) (hV : Vts w vs V) (hB : At w B us) (hU : Vts w us V) (hmax : V.length ≤ 140737488351232) :
    Calls Try.prog 43 #[.slice A V.length c, .slice B V.length d, .func (.func 44) #[] #[]] w (RetV w (.bool true)) := by
  have HLV := Lib.hid (Vts.length _ _ hV)
  have HLU := Lib.hid (Vts.length _ _ hU)
  go_enter Try.func43, Try.ntmps43
  go_wp2_with fail
  go_loopw [17] (fun s wr => ∃ j : Nat, j ≤ V.length ∧ s = .int .i64 ((j : Nat) : Int) ∧ Below w.heap.size w wr) (fun s _ => V.length - (intOf s).toNat)
  case atStart => exact ⟨0, by omega, rfl, Below.refl _ _⟩
  case round =>
    obtain ⟨j, hj, rfl, hBw⟩ := hrel
    by_cases hjv : j < V.length
    · obtain ⟨v, hv⟩ : ∃ v, V[j]? = some v := ⟨_, List.getElem?_eq_getElem hjv⟩
      obtain ⟨b1, o1, rfl⟩ := some_of_at hA (by rw [HLV.out]; omega)
      obtain ⟨b2, o2, rfl⟩ := some_of_at hB (by rw [HLU.out]; omega)
      obtain ⟨cs, ⟨nA, nd, rfl, hn1, hn2, hn3, _⟩, hat⟩ := Vts.at' _ _ j v hV hA hv
      obtain ⟨ds, ⟨mA, md, rfl, hm1, hm2, hm3, _⟩, hat2⟩ := Vts.at' _ _ j v hU hB hv
      have hat1 : At wr (some ⟨b1, o1 + j * 14, none⟩) _ := hat.below hBw
      have hat3 := hat2.below hBw
      obtain ⟨vs0, vb0, vc0, vl0⟩ := v
      simp only at hat1 hat3 hn1 hm1 hn3
      have hbx := below1' wr (.cells #[.int .i64 vs0, .int .i64 vb0, .int .i64 vc0.id, .int .i64 vc0.kind, .string vc0.key, .int .i64 vc0.blob, .int .i64 vc0.other, .int .i64 vc0.index, .int .i64 vc0.node, .int .i64 vc0.size, .int .u32 vc0.sum, .int .i64 vc0.k, .int .i64 vc0.m, .slice nA vl0.length nd] 74)
      have hgx : (wr.alloc (.cells #[.int .i64 vs0, .int .i64 vb0, .int .i64 vc0.id, .int .i64 vc0.kind, .string vc0.key, .int .i64 vc0.blob, .int .i64 vc0.other, .int .i64 vc0.index, .int .i64 vc0.node, .int .i64 vc0.size, .int .u32 vc0.sum, .int .i64 vc0.k, .int .i64 vc0.m, .slice nA vl0.length nd] 74)).heap[wr.heap.size]? = some (.cells #[.int .i64 vs0, .int .i64 vb0, .int .i64 vc0.id, .int .i64 vc0.kind, .string vc0.key, .int .i64 vc0.blob, .int .i64 vc0.other, .int .i64 vc0.index, .int .i64 vc0.node, .int .i64 vc0.size, .int .u32 vc0.sum, .int .i64 vc0.k, .int .i64 vc0.m, .slice nA vl0.length nd] 74 (0, 0)) := heap_alloc_new wr _
      have hat4 := hat3.below hbx
      have hji : (j : Int) < (V.length : Int) := by omega
      have hj0 : (0 : Int) ≤ (j : Int) := by omega
      have hmi : (V.length : Int) ≤ 140737488351232 := by omega
      have HBX := Lib.hid hbx
      have HGX := Lib.hid hgx
      have HN1 := Lib.hid (And.intro hn1 hm1)
      clear hv hat hat2 hat3 hbx hgx hn1 hm1 hm2 hm3
      go_wp2_with (first
          | (refine wpList_load_at rfl 74 (.tmp 20) rfl rfl hat1 Try.underlying74 rfl (by kernel_rfl) ?_)
          | (refine wpList_load_at rfl 74 (.tmp 24) rfl rfl hat4 Try.underlying74 rfl (by kernel_rfl) ?_))
      have hb2 := below2w wr #[.int .i64 vs0, .int .i64 vb0, .int .i64 vc0.id, .int .i64 vc0.kind, .string vc0.key, .int .i64 vc0.blob, .int .i64 vc0.other, .int .i64 vc0.index, .int .i64 vc0.node, .int .i64 vc0.size, .int .u32 vc0.sum, .int .i64 vc0.k, .int .i64 vc0.m, .slice nA vl0.length nd] #[.int .i64 vs0, .int .i64 vb0, .int .i64 vc0.id, .int .i64 vc0.kind, .string vc0.key, .int .i64 vc0.blob, .int .i64 vc0.other, .int .i64 vc0.index, .int .i64 vc0.node, .int .i64 vc0.size, .int .u32 vc0.sum, .int .i64 vc0.k, .int .i64 vc0.m, .slice mA vl0.length md] 74
      have HN2 := Lib.hid (svote_calls (s := vs0) (b := vb0) (c := vc0) (d := nd) (d' := md) (HN1.out.1.below (hBw.trans (hb2.mono hBw.size))) (HN1.out.2.below (hBw.trans (hb2.mono hBw.size))) (by omega))
      refine HN2.out.mono ?_
      rintro e w6 ⟨rfl, hb6⟩
      have hbF : Below w.heap.size w w6 := (hBw.trans (hb2.mono hBw.size)).trans (hb6.mono (Nat.le_trans hBw.size hb2.size))
      clear HN2 hat1 hat4 HBX HGX hb2 hb6
      go_wp2_with fail
      exact ⟨⟨j + 1, by omega, by go_num, hbF⟩, by simp [intOf]; omega⟩
    · go_wp2_with fail
      go_ret
      exact ⟨rfl, hBw⟩
end Go.Proofs.Ytfcacplecapgfaa
