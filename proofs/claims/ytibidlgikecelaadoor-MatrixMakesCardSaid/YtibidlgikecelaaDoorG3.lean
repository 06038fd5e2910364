/- Any rows of a code's matrix, as many as its data, take nothing but nought to nought. Plain; no program in sight. -/
import Derived.Test.YtibidlgikecelaaDoorG2
namespace Go.Proofs.YtibidlgikecelaaDoor
set_option linter.unusedVariables false
set_option linter.unusedSimpArgs false

/-- The sum over a list. -/
def sumL {α : Type} (l : List α) (f : α → B8) : B8 := l.foldr (fun x s => f x ^^^ s) 0#8
theorem sumL_cons {α : Type} (x : α) (l : List α) (f : α → B8) : sumL (x :: l) f = f x ^^^ sumL l f := rfl
theorem sumL_congr {α : Type} {l : List α} {f g : α → B8} (h : ∀ x, x ∈ l → f x = g x) : sumL l f = sumL l g := by
  induction l with
  | nil => rfl
  | cons x l ih => rw [sumL_cons, sumL_cons, h x (by simp), ih fun y hy => h y (by simp [hy])]
theorem sumL_add {α : Type} (l : List α) (f g : α → B8) : sumL l (fun x => f x ^^^ g x) = sumL l f ^^^ sumL l g := by
  induction l with
  | nil => simp [sumL]
  | cons x l ih => simp only [sumL_cons, ih]; ac_rfl
theorem gm_sumL {α : Type} (a : B8) (l : List α) (f : α → B8) : gm a (sumL l f) = sumL l (fun x => gm a (f x)) := by
  induction l with
  | nil => exact gm_zero a
  | cons x l ih => simp only [sumL_cons, gm_add_right, ih]
theorem sumL_append {α : Type} (l m : List α) (f : α → B8) : sumL (l ++ m) f = sumL l f ^^^ sumL m f := by
  induction l with
  | nil => simp [sumL]
  | cons x l ih => rw [List.cons_append, sumL_cons, sumL_cons, ih, BitVec.xor_assoc]
theorem xs_sumL (n : Nat) (f : Nat → B8) : xs n f = sumL (List.range n) f := by
  induction n with
  | zero => rfl
  | succ n ih => rw [List.range_succ, sumL_append, xs, ih]; simp [sumL]
theorem sumL_filter {α : Type} (p : α → Bool) (f : α → B8) : ∀ l : List α, (∀ x, x ∈ l → p x = false → f x = 0#8) → sumL l f = sumL (l.filter p) f
  | [], _ => rfl
  | x :: l, h => by
    rw [sumL_cons, sumL_filter p f l fun y hy => h y (by simp [hy])]
    cases hp : p x with
    | true => rw [List.filter_cons_of_pos hp, sumL_cons]
    | false => rw [List.filter_cons_of_neg (by simp [hp]), h x (by simp) hp]; simp

theorem sumL_map {α β : Type} (g : β → α) (l : List β) (f : α → B8) : sumL (l.map g) f = sumL l fun x => f (g x) := by
  unfold sumL; rw [List.foldr_map]
theorem length_parts {α : Type} (l : List α) (p : α → Bool) : l.length = (l.filter p).length + (l.filter fun x => !p x).length := by
  induction l with
  | nil => rfl
  | cons x l ih => cases h : p x <;> simp [h] <;> omega

theorem gm_div {a b d : B8} (ha : a ≠ 0#8) (hb : b ≠ 0#8) :
    gm (a ^^^ d) (gi a) ^^^ gm (b ^^^ d) (gi b) = gm (a ^^^ b) (gm (gm d (gi b)) (gi a)) := by
  rw [gm_add_left, gm_add_left, gm_add_left, gm_gi a ha, gm_gi b hb]
  have e1 : gm a (gm (gm d (gi b)) (gi a)) = gm d (gi b) := by
    rw [gm_comm (gm d (gi b)), ← gm_assoc, gm_gi a ha, one_gm]
  have e2 : gm b (gm (gm d (gi b)) (gi a)) = gm d (gi a) := by
    rw [gm_comm d, gm_assoc (gi b), ← gm_assoc, gm_gi b hb, one_gm]
  rw [e1, e2]
  have : ∀ u x y : B8, u ^^^ x ^^^ (u ^^^ y) = y ^^^ x := by
    intro u x y
    have : u ^^^ x ^^^ (u ^^^ y) = (u ^^^ u) ^^^ (y ^^^ x) := by ac_rfl
    rw [this]; simp
  rw [this]

/-- Noughts alone: the sums of quotients. -/
theorem cauchy : ∀ (ys : List (B8 × B8)) (zs : List B8), ys.length ≤ zs.length → zs.Pairwise (· ≠ ·) → ys.Pairwise (fun p q => p.1 ≠ q.1) → (∀ x, x ∈ zs → ∀ p, p ∈ ys → x ≠ p.1) →
    (∀ x, x ∈ zs → sumL ys (fun p => gm p.2 (gi (x ^^^ p.1))) = 0#8) → ∀ p, p ∈ ys → p.2 = 0#8
  | [], _, _, _, _, _, _, p, hp => by cases hp
  | (y0, v0) :: ys, [], h, _, _, _, _, _, _ => by simp at h
  | (y0, v0) :: ys, x0 :: zs, hlen, hz, hy, hne, hs, p, hp => by
    obtain ⟨hz1, hz2⟩ := List.pairwise_cons.1 hz
    obtain ⟨hy1, hy2⟩ := List.pairwise_cons.1 hy
    have hx0y0 : x0 ^^^ y0 ≠ 0#8 := xor_ne (hne x0 (by simp) (y0, v0) (by simp))
    have key := cauchy (ys.map fun q => (q.1, gm q.2 (gm (y0 ^^^ q.1) (gi (x0 ^^^ q.1))))) zs (by simpa using hlen) hz2
      (by rw [List.pairwise_map]; exact hy2)
      (by
        intro x hx q hq
        obtain ⟨q', hq', rfl⟩ := List.mem_map.1 hq
        exact hne x (by simp [hx]) q' (by simp [hq']))
      (by
        intro x hx
        have h1 := hs x (by simp [hx])
        have h2 := hs x0 (by simp)
        rw [sumL_cons] at h1 h2
        have hxy0 : x ^^^ y0 ≠ 0#8 := xor_ne (hne x (by simp [hx]) (y0, v0) (by simp))
        have hxx : x ^^^ x0 ≠ 0#8 := xor_ne (hz1 x hx).symm
        have m1 := congrArg (gm (x ^^^ y0)) h1
        have m2 := congrArg (gm (x0 ^^^ y0)) h2
        simp only [gm_add_right, gm_zero] at m1 m2
        have c1 : gm (x ^^^ y0) (gm v0 (gi (x ^^^ y0))) = v0 := by rw [gm_comm v0, ← gm_assoc, gm_gi _ hxy0, one_gm]
        have c2 : gm (x0 ^^^ y0) (gm v0 (gi (x0 ^^^ y0))) = v0 := by rw [gm_comm v0, ← gm_assoc, gm_gi _ hx0y0, one_gm]
        rw [c1] at m1
        rw [c2] at m2
        have e1 := xor_eq_zero m1
        have e2 := xor_eq_zero m2
        rw [gm_sumL] at e1 e2
        have e3 : sumL ys (fun q => gm (x ^^^ y0) (gm q.2 (gi (x ^^^ q.1))) ^^^ gm (x0 ^^^ y0) (gm q.2 (gi (x0 ^^^ q.1)))) = 0#8 := by
          rw [sumL_add, ← e1, ← e2]; simp
        have e4 : sumL (ys.map fun q => (q.1, gm q.2 (gm (y0 ^^^ q.1) (gi (x0 ^^^ q.1))))) (fun p => gm p.2 (gi (x ^^^ p.1))) = sumL ys (fun q => gm (gm q.2 (gm (y0 ^^^ q.1) (gi (x0 ^^^ q.1)))) (gi (x ^^^ q.1))) := by
          unfold sumL
          rw [List.foldr_map]
        rw [e4]
        have e5 : gm (x ^^^ x0) (sumL ys (fun q => gm (gm q.2 (gm (y0 ^^^ q.1) (gi (x0 ^^^ q.1)))) (gi (x ^^^ q.1)))) = 0#8 := by
          rw [gm_sumL, ← e3]
          refine sumL_congr fun q hq => ?_
          have ha : x ^^^ q.1 ≠ 0#8 := xor_ne (hne x (by simp [hx]) q (by simp [hq]))
          have hb : x0 ^^^ q.1 ≠ 0#8 := xor_ne (hne x0 (by simp) q (by simp [hq]))
          have hd := gm_div (d := y0 ^^^ q.1) ha hb
          have s1 : x ^^^ q.1 ^^^ (y0 ^^^ q.1) = x ^^^ y0 := by
            have : x ^^^ q.1 ^^^ (y0 ^^^ q.1) = (x ^^^ y0) ^^^ (q.1 ^^^ q.1) := by ac_rfl
            rw [this]; simp
          have s2 : x0 ^^^ q.1 ^^^ (y0 ^^^ q.1) = x0 ^^^ y0 := by
            have : x0 ^^^ q.1 ^^^ (y0 ^^^ q.1) = (x0 ^^^ y0) ^^^ (q.1 ^^^ q.1) := by ac_rfl
            rw [this]; simp
          have s3 : x ^^^ q.1 ^^^ (x0 ^^^ q.1) = x ^^^ x0 := by
            have : x ^^^ q.1 ^^^ (x0 ^^^ q.1) = (x ^^^ x0) ^^^ (q.1 ^^^ q.1) := by ac_rfl
            rw [this]; simp
          rw [s1, s2, s3] at hd
          have r1 : gm (x ^^^ y0) (gm q.2 (gi (x ^^^ q.1))) = gm q.2 (gm (x ^^^ y0) (gi (x ^^^ q.1))) := by rw [← gm_assoc, gm_comm (x ^^^ y0), gm_assoc]
          have r2 : gm (x0 ^^^ y0) (gm q.2 (gi (x0 ^^^ q.1))) = gm q.2 (gm (x0 ^^^ y0) (gi (x0 ^^^ q.1))) := by rw [← gm_assoc, gm_comm (x0 ^^^ y0), gm_assoc]
          rw [r1, r2, ← gm_add_right, hd]
          rw [gm_assoc, ← gm_assoc, gm_comm (x ^^^ x0), gm_assoc]
        rcases gm_eq_zero e5 with h | h
        · exact absurd h hxx
        · exact h)
    have hrest : ∀ q, q ∈ ys → q.2 = 0#8 := by
      intro q hq
      have := key _ (List.mem_map.2 ⟨q, hq, rfl⟩)
      rcases gm_eq_zero this with h | h
      · exact h
      · rcases gm_eq_zero h with h | h
        · exact absurd (xor_eq_zero h) (hy1 q hq)
        · exact absurd h (gi_ne (xor_ne (hne x0 (by simp) q (by simp [hq]))))
    rcases List.mem_cons.1 hp with rfl | hp
    · have h2 := hs x0 (by simp)
      rw [sumL_cons, sumL_congr (g := fun _ => 0#8) (fun q hq => by rw [hrest q hq, zero_gm])] at h2
      have hz : ∀ l : List (B8 × B8), sumL l (fun _ => 0#8) = 0#8 := by
        intro l
        induction l with
        | nil => rfl
        | cons x l ih => rw [sumL_cons, ih]; rfl
      rw [hz] at h2
      simp only [BitVec.xor_zero] at h2
      rcases gm_eq_zero h2 with h | h
      · exact h
      · exact absurd h (gi_ne hx0y0)
    · exact hrest p hp

/-- A code's matrix of K columns. -/
def genM (K : Nat) : Mx := fun i k => if i < K then (if i = k then 1#8 else 0#8) else gi (BitVec.ofNat 8 i ^^^ BitVec.ofNat 8 k)

theorem ofNat8_ne {a b : Nat} (ha : a < 256) (hb : b < 256) (h : a ≠ b) : BitVec.ofNat 8 a ≠ BitVec.ofNat 8 b := by
  intro he
  have := congrArg BitVec.toNat he
  rw [BitVec.toNat_ofNat, BitVec.toNat_ofNat, Nat.mod_eq_of_lt ha, Nat.mod_eq_of_lt hb] at this
  exact h this

theorem mds {K : Nat} {l : List Nat} (hl : l.length = K) (hnd : l.Pairwise (· ≠ ·)) (hlt : ∀ i, i ∈ l → i < 256) (hK : K ≤ 256) {v : Nat → B8}
    (hv : ∀ i, i ∈ l → xs K (fun k => gm (genM K i k) (v k)) = 0#8) : ∀ k, k < K → v k = 0#8 := by
  have h1 : ∀ i, i ∈ l → i < K → v i = 0#8 := by
    intro i hi hiK
    have := hv i hi
    rw [xs_single _ hiK] at this
    · simpa [genM, hiK, one_gm] using this
    · intro k _ hne
      simp [genM, hiK, Ne.symm hne, zero_gm]
  have hcount : ((List.range K).filter fun k => !decide (k ∈ l)).length ≤ (l.filter fun i => !decide (i < K)).length := by
    have e1 : ((List.range K).filter fun k => decide (k ∈ l)).Perm (l.filter fun i => decide (i < K)) := by
      rw [List.perm_ext_iff_of_nodup]
      · intro a
        simp [and_comm]
      · exact List.Pairwise.filter _ List.nodup_range
      · exact List.Pairwise.filter _ hnd
    have e2 := e1.length_eq
    have e3 := length_parts (List.range K) (fun k => decide (k ∈ l))
    have e4 := length_parts l (fun i => decide (i < K))
    rw [List.length_range] at e3
    omega
  have hc := cauchy (((List.range K).filter fun k => !decide (k ∈ l)).map fun k => (BitVec.ofNat 8 k, v k)) ((l.filter fun i => !decide (i < K)).map fun i => BitVec.ofNat 8 i) (by simpa using hcount)
    (by
      rw [List.pairwise_map]
      refine List.Pairwise.imp_of_mem ?_ (List.Pairwise.filter _ hnd)
      intro a b ha hb hab
      exact ofNat8_ne (hlt a (List.mem_filter.1 ha).1) (hlt b (List.mem_filter.1 hb).1) hab)
    (by
      rw [List.pairwise_map]
      refine List.Pairwise.imp_of_mem ?_ (List.Pairwise.filter _ List.nodup_range)
      intro a b ha hb hab
      have h1 := List.mem_range.1 (List.mem_filter.1 ha).1
      have h2 := List.mem_range.1 (List.mem_filter.1 hb).1
      exact ofNat8_ne (by omega) (by omega) hab)
    (by
      intro x hx p hp
      obtain ⟨i, hi, rfl⟩ := List.mem_map.1 hx
      obtain ⟨k, hk, rfl⟩ := List.mem_map.1 hp
      obtain ⟨hi1, hi2⟩ := List.mem_filter.1 hi
      have h1 := List.mem_range.1 (List.mem_filter.1 hk).1
      simp at hi2
      exact ofNat8_ne (hlt i hi1) (by omega) (by omega))
    (by
      intro x hx
      obtain ⟨i, hi, rfl⟩ := List.mem_map.1 hx
      obtain ⟨hi1, hi2⟩ := List.mem_filter.1 hi
      simp at hi2
      have := hv i hi1
      rw [xs_sumL, sumL_filter (fun k => !decide (k ∈ l))] at this
      · rw [← this, sumL_map]
        refine sumL_congr fun k hk => ?_
        simp only [genM]
        rw [if_neg (by omega), gm_comm]
      · intro k hk hp
        rw [h1 k (by simpa using hp) (List.mem_range.1 hk), gm_zero])
  intro k hk
  by_cases hkl : k ∈ l
  · exact h1 k hkl hk
  · exact hc (BitVec.ofNat 8 k, v k) (List.mem_map.2 ⟨k, List.mem_filter.2 ⟨List.mem_range.2 hk, by simpa using hkl⟩, rfl⟩)

/-- So they have an inverse. -/
theorem mds_inv {K : Nat} {l : List Nat} (hl : l.length = K) (hnd : l.Pairwise (· ≠ ·)) (hlt : ∀ i, i ∈ l → i < 256) (hK : K ≤ 256) :
    ∃ R, invM K (fun i k => genM K (l.getD i 0) k) = some R := by
  cases hi : invM K (fun i k => genM K (l.getD i 0) k) with
  | some R => exact ⟨R, rfl⟩
  | none =>
    obtain ⟨v, ⟨j, hj, hne⟩, hv⟩ := inv_none hi
    refine absurd (mds hl hnd hlt hK (v := v) ?_ j hj) hne
    intro i hi
    obtain ⟨n, hn, rfl⟩ := List.getElem_of_mem hi
    have := hv n (by omega)
    simpa [List.getD_eq_getElem?_getD, List.getElem?_eq_getElem hn] using this

end Go.Proofs.YtibidlgikecelaaDoor
