/- The law ChainPieces: its walk. -/
import Derived.Test.YtlcchpjficbgmaaC8
namespace Go.Proofs.Ytlcchpjficbgmaa
open Go.RowKit Go.Maps
set_option linter.unusedVariables false
set_option linter.unusedSimpArgs false

theorem mod_nat (n0 : Int) (k : Nat) (hk : 0 < k) (hk2 : k ≤ 1000000) : ∃ N : Nat, N < k ∧ wrap64 ((IntKind.u64.wrap n0).tmod (k : Int)) = (N : Int) := by
  have h0 : 0 ≤ IntKind.u64.wrap n0 := by rw [IntKind.wrap_u64]; omega
  have h1 : (IntKind.u64.wrap n0).tmod (k : Int) = IntKind.u64.wrap n0 % (k : Int) := Int.tmod_eq_emod_of_nonneg h0
  have h2 := Int.emod_nonneg (IntKind.u64.wrap n0) (by omega : (k : Int) ≠ 0)
  have h3 := Int.emod_lt_of_pos (IntKind.u64.wrap n0) (by omega : (0 : Int) < k)
  rw [h1]
  generalize IntKind.u64.wrap n0 % (k : Int) = r at *
  refine ⟨r.toNat, by omega, ?_⟩
  unfold wrap64
  omega

/-- A struct is read from cells. -/
theorem run_loadVar_at {P : Program} {w : World} {A : Addr} {ty : TypeId} {cs : List Value} {d : TypeDesc} (hA : At w (some A) cs)
    (hu : P.underlying ty = some d) (hd : (match d with | .struct _ | .array _ _ => true | _ => false) = true) (hi : (P.info? ty).map (·.size) = some cs.length) :
    (loadVar ty A).run P w = .ok (.agg cs.toArray) w := by
  have hl := run_loadAt (P := P) w hA
  cases hq : P.info? ty with
  | none => simp [hq] at hi
  | some i =>
    have hs : i.size = cs.length := by simpa [hq] using hi
    have hagg : (isAgg ty).run P w = .ok true w := by
      unfold isAgg
      rw [Sem.run_bind, run_underlying hu w]
      cases d <;> simp_all
    simp [loadVar, Sem.run_bind, hagg, sizeOf, typeInfo, hq, hs, hl]
theorem wp_load_at {P : Program} {o : Oper} {a : Act} {w : World} {K : Act → World → Prop} {Q : Exit → Act → World → Prop} (ty : TypeId) (x : Operand) (ho : o.op = .load ty x)
    {A : Addr} (hx : a.eval x = .pointer (some A)) {cs : List Value} {d : TypeDesc} (hA : At w (some A) cs)
    (hu : P.underlying ty = some d) (hd : (match d with | .struct _ | .array _ _ => true | _ => false) = true) (hi : (P.info? ty).map (·.size) = some cs.length)
    (h : K (a.put o.dst (.agg cs.toArray)) w) : o.wp P a w K Q := by
  unfold Oper.wp execOp
  simp only [ho, hx, Instr.loadAt, Instr.sureAddr, Sem.run_bind, Sem.run_pure, Result.andThen_ok, run_loadVar_at hA hu hd hi]
  exact h
theorem wpList_load_at {P : Program} {ops : Array Oper} {rest : List Oper} {o : Oper} {a : Act} {w : World} {Q : Exit → Act → World → Prop} (hgd : o.guard = none) (ty : TypeId) (x : Operand) (ho : o.op = .load ty x)
    {A : Addr} (hx : a.eval x = .pointer (some A)) {cs : List Value} {d : TypeDesc} (hA : At w (some A) cs)
    (hu : P.underlying ty = some d) (hd : (match d with | .struct _ | .array _ _ => true | _ => false) = true) (hi : (P.info? ty).map (·.size) = some cs.length)
    (h : wpList P ops Q rest (a.put o.dst (.agg cs.toArray)) w) : wpList P ops Q (o :: rest) a w :=
  wpList_plain hgd fun _ hK => wp_load_at ty x ho hx hA hu hd hi (hK _ _ h)

theorem own_atN {w : World} {B e sz n c : Nat} {A : Option Addr} {vs : List Value} (h : w.ownsRow B e sz (.slice A n c) n vs) : At w A vs := by
  intro i x hx
  obtain ⟨h1, h2⟩ := h
  rcases h2 with ⟨hv, hn⟩ | ⟨g, cap, cur, hv, hg, hh, hnc, hcm, hs, ht⟩
  · subst hn; simp at h1; subst h1; simp at hx
  · injection hv with hA hn hc
    subst hA
    refine ⟨g, 0, rfl, ?_⟩
    rw [← ht] at hx
    rw [List.getElem?_take] at hx
    split at hx
    · simp only [World.cell?, hh, Nat.zero_add]
      simpa using hx
    · simp at hx

/-- The commands' cells lie one behind the other. -/
theorem Cmds.at' {w : World} {b off : Nat} : ∀ (L : List Cd) (vs : List Value) (k : Nat) (x : Cd), Cmds w vs L → At w (some ⟨b, off, none⟩) vs → L[k]? = some x →
    ∃ A d B, At w (some ⟨b, off + k * 12, none⟩) (cmc x.1 (.slice A x.2.length d)) ∧ w.ownsRow B 3 1 (.slice A x.2.length d) x.2.length (ints x.2) ∧ x.2.length * 8 ≤ 140737488351232
  | [], vs, k, x, _, _, h => by simp at h
  | y :: L, vs, 0, x, hv, hA, h => by
    obtain ⟨A, d, B, rest, rfl, h1, h2, h3⟩ := hv
    simp at h
    subst h
    exact ⟨A, d, B, by simpa using hA.append, h1, h2⟩
  | y :: L, vs, k + 1, x, hv, hA, h => by
    obtain ⟨A, d, B, rest, rfl, h1, h2, h3⟩ := hv
    have hr : At w (some ⟨b, off + 12, none⟩) rest := by
      intro i u hu
      obtain ⟨b', o', he, hc⟩ := hA (12 + i) u (by rw [List.getElem?_append_right (by simp [cmc])]; simpa [cmc] using hu)
      simp only [Option.some.injEq, Addr.mk.injEq, and_true] at he
      obtain ⟨rfl, rfl⟩ := he
      exact ⟨_, _, rfl, by rw [Nat.add_assoc]; exact hc⟩
    obtain ⟨A', d', B', r1, r2, r3⟩ := Cmds.at' L rest k x h3 hr (by simpa using h)
    exact ⟨A', d', B', by rw [show off + (k + 1) * 12 = off + 12 + k * 12 by omega]; exact r1, r2, r3⟩

def pl (N : Nat) : Nat → List (Int × Cd)
  | 0 => []
  | k + 1 => pl N k ++ [((N : Int) - k, (cmOf ((N : Int) - k), []))]
theorem pl_len (N : Nat) : ∀ k, (pl N k).length = k
  | 0 => rfl
  | k + 1 => by simp [pl, pl_len N k]
theorem look_pl (N : Nat) : ∀ (k : Nat) (j : Int), look (pl N k) j = if (N : Int) - k < j ∧ j ≤ N then some (cmOf j, []) else none
  | 0, j => by rw [if_neg (by omega)]; rfl
  | k + 1, j => by
    rw [pl, look_snoc, look_pl N k j]
    by_cases h : (N : Int) - k < j ∧ j ≤ N
    · have h2 : (N : Int) - ((k + 1 : Nat) : Int) < j ∧ j ≤ N := by omega
      rw [if_pos h, if_pos h2]
    · rw [if_neg h]
      by_cases hj : (N : Int) - k = j
      · subst hj
        have h2 : (N : Int) - ((k + 1 : Nat) : Int) < (N : Int) - k ∧ (N : Int) - k ≤ N := by omega
        simp only [if_pos]
        rw [if_pos h2]
      · have h2 : ¬ ((N : Int) - ((k + 1 : Nat) : Int) < j ∧ j ≤ N) := by omega
        simp only [if_neg hj]
        rw [if_neg h2]

theorem run_full {S : List (Int × Cd)} : ∀ (k q : Nat) (n : Int), (∀ t : Nat, t < q → look S (n + t) = some (cmOf (n + t), [])) → look S (n + q) = none → runL S k n = (List.range (min k q)).map fun t : Nat => (cmOf (n + (t : Int)), [])
  | 0, q, n, _, _ => by simp [runL]
  | k + 1, 0, n, _, h => by
    simp only [Int.natCast_zero, Int.add_zero] at h
    rw [runL, h]; simp
  | k + 1, q + 1, n, h, h2 => by
    have h0 := h 0 (by omega)
    simp only [Int.natCast_zero, Int.add_zero] at h0
    rw [runL, h0]
    have ih := run_full k q (n + 1) (fun t ht => by
      have := h (t + 1) (by omega)
      rw [show n + 1 + (t : Int) = n + ((t + 1 : Nat) : Int) by omega]; exact this) (by rwa [show n + 1 + (q : Int) = n + ((q + 1 : Nat) : Int) by omega])
    simp only [ih]
    rw [show min (k + 1) (q + 1) = min k q + 1 by omega, List.range_succ_eq_map]
    simp only [List.map_cons, List.map_map, Int.natCast_zero, Int.add_zero]
    congr 1
    refine List.map_congr_left fun t _ => ?_
    simp only [Function.comp_apply]
    congr 2
    omega

def PLoop (w : World) (N : Nat) (s : Value) (wr : World) : Prop :=
  ∃ k : Nat, k ≤ N ∧ s = .int .i64 ((k : Nat) : Int) ∧ (∃ nx, Chain wr (w.heap.size + 1) w.heap.size (pl N k) nx) ∧ Below w.heap.size w wr
def QLoop (w : World) (N : Nat) (s7 s38 : Value) (wr : World) : Prop :=
  ∃ (q t : Nat), q ≤ N ∧ t ≤ N + 1 ∧ (t ≤ q ∨ q = N) ∧ s7 = .int .i64 ((q : Int) + 1) ∧ s38 = .int .i64 (t : Int) ∧ (∃ nx, Chain wr (w.heap.size + 1) w.heap.size (pl N N) nx) ∧ Below w.heap.size w wr

def RLoop (w2 : World) (q G : Nat) (s55 s7 : Value) (w3 : World) : Prop :=
  ∃ u : Nat, u ≤ G ∧ s55 = .int .i64 (u : Int) ∧ s7 = .int .i64 ((q : Int) + 1 + (u : Int)) ∧ Below w2.heap.size w2 w3

set_option maxHeartbeats 1000000 in
set_option maxRecDepth 100000 in
theorem chainPieces_calls {w : World} {n0 m0 : Int} :
    Calls Try.prog 6 #[.int .i64 n0, .int .i64 m0] w (RetV w (.bool true)) := by
  obtain ⟨N, hN, e1⟩ := mod_nat n0 30 (by decide) (by decide)
  obtain ⟨M, hM, e2⟩ := mod_nat m0 9 (by decide) (by decide)
  have E1 := Lib.hid e1
  have E2 := Lib.hid e2
  clear e1 e2
  go_enter Try.func6, Try.ntmps6
  go_wp2_with (go_at_call 9; refine (new_calls w).mono ?_; rintro e w1 ⟨rfl, hch, hb1⟩)
  have e1 : wrap64 ((IntKind.u64.wrap n0).tmod 30) = (N : Int) := E1.out
  have e2 : wrap64 ((IntKind.u64.wrap m0).tmod 9) = (M : Int) := E2.out
  rw [e1, e2, show wrap64 (1 + (M : Int)) = (M : Int) + 1 by unfold wrap64; omega]
  clear e1 e2 E1 E2
  go_loopw [22] (fun s wr => PLoop w N s wr) (fun s _ => N - (intOf s).toNat)
  case atStart => exact ⟨0, by omega, rfl, ⟨1, hch, by omega, by intro j h1 h2; omega, rfl, by intro e he; cases he⟩, hb1⟩
  case round =>
    clear hch hb1 w1
    obtain ⟨k, hk, rfl, ⟨nx, hch⟩, hB⟩ := hrel
    by_cases hlt : k < N
    · have hl0 : look (pl N k) ((N : Int) - k) = none := by rw [look_pl, if_neg (by omega)]
      have hlen := Lib.hid (pl_len N k)
      have HR := Lib.hid (by unfold learnR; rw [if_neg (by omega), hl0] : learnR (pl N k) ((N : Int) - k) (cmOf ((N : Int) - k), []) = 0)
      have HS := Lib.hid (by unfold learnS; rw [if_neg (by omega), hl0]; rfl : learnS (pl N k) ((N : Int) - k) (cmOf ((N : Int) - k), []) = pl N (k + 1))
      clear hl0
      have hso : SumOk (cmOf ((N : Int) - k)) := by unfold SumOk cmOf; simp
      go_wp2_with (go_at_call 10; refine (learn_calls (x := (cmOf ((N : Int) - k), [])) hch (WalkArith.wf_i64 (by omega)) (by have := hlen.out; omega) (At.nil _ _) rfl (fun _ => rfl) (by simp) hso).mono ?_; rintro e w2 ⟨rfl, hU, nx2, hch2⟩; rw [HR.out])
      rw [HS.out] at hch2
      exact ⟨⟨k + 1, by omega, by go_num, ⟨nx2, hch2⟩, hB.trans (hU.below (by omega) (by omega) hB.size)⟩, by simp [intOf]; omega⟩
    · obtain rfl : k = N := by omega
      go_wp2_with fail
      go_loopw [7, 38] (fun s7 s38 wq => QLoop w k s7 s38 wq) (fun _ s38 _ => k + 1 - (intOf s38).toNat)
      case atStart => exact ⟨0, 0, by omega, by omega, .inl (by omega), by go_num, rfl, ⟨nx, hch⟩, hB⟩
      case round =>
        clear hch hB nx
        obtain ⟨q, t, hq, ht, hqt, rfl, rfl, ⟨nx, hch⟩, hB⟩ := hrel
        obtain ⟨wo, rfl⟩ : ∃ wo : World, wo = wr := ⟨_, rfl⟩
        by_cases hlt2 : t < k + 1
        · have hlen := Lib.hid (pl_len k k)
          have hrun := run_full (S := pl k k) (M + 1) (k - q) ((q : Int) + 1) (fun t ht => by rw [look_pl, if_pos (by omega)]) (by rw [look_pl, if_neg (by omega)])
          have hR := Lib.hid (by rw [show max ((q : Int) + 1) 1 = (q : Int) + 1 by omega, show ((M : Int) + 1).toNat = M + 1 by omega]; exact hrun : runL (pl k k) ((M : Int) + 1).toNat (max ((q : Int) + 1) 1) = (List.range (min (M + 1) (k - q))).map fun t : Nat => (cmOf ((q : Int) + 1 + (t : Int)), []))
          clear hrun
          have hmn : min (M + 1) (k - q) = M + 1 ∧ M + 1 ≤ k - q ∨ min (M + 1) (k - q) = k - q ∧ k - q < M + 1 := by omega
          go_wp2_with (go_at_call 14; refine (from_calls hch.at' (by have := hlen.out; omega) (WalkArith.wf_i64 (by omega)) (WalkArith.wf_i64 (by omega))).mono ?_; rintro e w2 ⟨A1, n1, d1, vs1, rfl, hn1, ho1, hv1, hb1⟩; rw [hR.out] at hn1 hv1; simp only [List.length_map, List.length_range] at hn1; subst hn1)
          all_goals
            have hG : ((min (M + 1) (k - q) : Nat) : Int) ≤ 30 := by omega
            have hGn : min (M + 1) (k - q) ≤ k - q := by omega
            have hGz : 1 ≤ min (M + 1) (k - q) ∨ q = k := by omega
            have hG2 : min (M + 1) (k - q) ≤ 30 := by omega
            clear hmn hR
            generalize min (M + 1) (k - q) = G at *
            go_loopw [55, 7] (fun s55 s7 w3 => RLoop w2 q G s55 s7 w3) (fun s55 _ _ => G - (intOf s55).toNat)
            case atStart => exact ⟨0, by omega, rfl, int_eq (by simp), Below.refl _ _⟩
            case round =>
              obtain ⟨u, hu, rfl, rfl, hB3⟩ := hrel
              by_cases hlt3 : u < G
              · have hlen3 := Cmds.length _ _ hv1
                simp only [List.length_map, List.length_range] at hlen3
                obtain ⟨b, off, rfl, _⟩ := own_atN ho1 0 (vs1[0]'(by omega)) (List.getElem?_eq_getElem _)
                obtain ⟨nA, nd, nB, hAt, _, _⟩ := Cmds.at' _ vs1 u (cmOf ((q : Int) + 1 + (u : Int)), []) hv1 (own_atN ho1) (by simp [hlt3])
                have hAt3 : At wr (some ⟨b, off + u * 12, none⟩) [.int .i64 ((q : Int) + 1 + (u : Int)), .int .i64 0, .string ⟨#[]⟩, .int .i64 0, .int .i64 0, .int .i64 0, .int .i64 0, .int .i64 0, .int .u32 0, .int .i64 0, .int .i64 0, .slice nA 0 nd] := hAt.below hB3
                have hz3 := hB3.size
                go_wp2_with (refine wpList_load_at rfl 27 (.tmp 57) rfl rfl hAt3 Try.underlying27 rfl (by kernel_rfl) ?_)
                exact ⟨⟨u + 1, by omega, by go_num, int_eq (by omega), hB3.alloc hB3.size _⟩, by simp [intOf]; omega⟩
              · obtain rfl : u = G := by omega
                go_wp2_with fail
                exact ⟨⟨q + u, t + 1, by omega, by omega, by omega, int_eq (by omega), by go_num, ⟨nx, (hch.below hb1).below hB3⟩, (hB.trans (hb1.mono hB.size)).trans (hB3.mono (Nat.le_trans hB.size hb1.size))⟩, by simp [intOf]; omega⟩
        · obtain rfl : t = k + 1 := by omega
          obtain rfl : q = k := by omega
          have hnx := hch.next_is (q := q) (fun t ht => by rw [look_pl, if_pos (by omega)]; simp) (by rw [look_pl, if_neg (by omega)])
          subst hnx
          go_wp2_with (go_at_call 13; refine (next_calls hch.at').mono ?_; rintro e w2 ⟨rfl, rfl⟩)
          go_ret
          exact ⟨rfl, hB⟩

end Go.Proofs.Ytlcchpjficbgmaa
