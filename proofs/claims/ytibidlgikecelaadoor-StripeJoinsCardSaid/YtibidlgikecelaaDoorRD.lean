/- Contract: reed.Decode. Contract: reed.Decode, of shards of a code word. Contracts: reed.Decode of too few shards, reed.Repair. -/
import Derived.Test.YtibidlgikecelaaDoorR7
namespace Go.Proofs.YtibidlgikecelaaDoor
open Go.RowKit
set_option linter.unusedVariables false
set_option linter.unusedSimpArgs false

set_option maxHeartbeats 400000 in
theorem dec1_calls {w : World} {ts bS oS n cS i : Nat} {v : Value} {vs : List Value} (hts : w.cell? ⟨ts, 0, none⟩ = some (.slice (some ⟨bS, oS, none⟩) n cS)) (hS : At w (some ⟨bS, oS, none⟩) vs) (hi : vs[i]? = some v) (hn : i < n) :
    Calls Tryd.prog 82 #[.int .i64 (i : Int), .pointer (some ⟨ts, 0, none⟩)] w fun e w' => e = .returned v ∧ w = w' := by
  obtain ⟨_, _, he, hc⟩ := hS i v hi
  cases he
  have hii : (i : Int) < (n : Int) := by omega
  clear hi
  go_enter Tryd.func82, Tryd.ntmps82
  go_wp2_with fail
  go_ret
  exact ⟨rfl, rfl⟩

theorem asInts_take (l : List Nat) (k : Nat) : (ints (asInts l)).take k = ints (asInts (l.take k)) := by simp [ints, asInts]
theorem Row.form {w : World} {v : Value} {l : List B8} (h : Row w v l) : ∃ X c, v = .slice X l.length c := by
  obtain ⟨X, c, h, _⟩ := h
  exact ⟨X, c, h⟩

set_option maxHeartbeats 800000 in
set_option maxRecDepth 100000 in
theorem eachI_calls {w : World} {ts bS oS n cS m cl c : Nat} {Al : Option Addr} {vs : List Value} {LL : List (List B8)} {l : List Nat} {Q : Mx} (hts : w.cell? ⟨ts, 0, none⟩ = some (.slice (some ⟨bS, oS, none⟩) n cS))
    (hS : At w (some ⟨bS, oS, none⟩) vs) (hLS : Texts w vs LL) (hn : n = LL.length) (hl : At w Al (ints (asInts l))) (hm : m = l.length) (hm2 : m ≤ 1000)
    (hrow : ∀ (j x : Nat), l[j]? = some x → LL[x]? = some (rowL c (Q x))) :
    Calls Tryd.prog 81 #[.slice Al m cl, .func (.func 82) #[] #[.pointer (some ⟨ts, 0, none⟩)]] w fun e w' => ∃ A cap, e = .returned (.slice A m cap) ∧ MatAt w' A m c (fun i => Q (l.getD i 0)) ∧ Below w.heap.size w w' := by
  subst hm
  have HN := Lib.hid hn
  clear hn
  go_enter Tryd.func81, Tryd.ntmps81
  go_wp2_with fail
  go_loopw [5, 10] (fun s5 s wr => ∃ (i : Nat) (A' : Option Addr) (cap : Nat) (xs : List Value), i ≤ l.length ∧ s = .int .i64 ((i : Nat) : Int) ∧ s5 = .slice A' i cap ∧ wr.ownsRow w.heap.size 22 1 (.slice A' i cap) i xs ∧
    Texts w xs ((l.take i).map fun x => rowL c (Q x)) ∧ Below w.heap.size w wr) (fun _ s _ => l.length - (intOf s).toNat)
  case atStart => exact ⟨0, none, 0, [], by omega, rfl, rfl, World.ownsRow_nil _ _ _ _, by simpa using Texts.nil w, Below.refl _ _⟩
  case round =>
    obtain ⟨i, A', cap, xs', hi, rfl, rfl, ho, hT, hb⟩ := hrel
    by_cases hil : i < l.length
    · have hii : (i : Int) < (l.length : Int) := by omega
      have hx : l[i]? = some l[i] := List.getElem?_eq_getElem hil
      obtain ⟨bl, ol, rfl⟩ := some_of_at hl (by simp; omega)
      have hcl := at_nat (hl.below hb) hx
      have hR := hrow i _ hx
      have htk : l.take (i + 1) = l.take i ++ [l[i]] := List.take_succ_eq_append_getElem hil
      generalize l[i] = x at *
      have hxl : x < LL.length := (List.getElem?_eq_some_iff.1 hR).1
      have hxv : x < vs.length := by rw [hLS.1]; exact hxl
      have hv : vs[x]? = some vs[x] := List.getElem?_eq_getElem hxv
      have hRow := hLS.2 x _ _ hv hR
      have hbx := (hb.cell (p := ⟨ts, 0, none⟩) (block_lt hts)).trans hts
      have HD := Lib.hid (dec1_calls hbx (hS.below hb) hv (by rw [HN.out]; exact hxl))
      obtain ⟨X, cx, hvf⟩ := hRow.form
      rw [hvf] at HD hRow
      have hT2 := hT.snoc hRow
      rw [show (l.take i).map (fun x => rowL c (Q x)) ++ [rowL c (Q x)] = (l.take (i + 1)).map fun x => rowL c (Q x) by rw [htk]; simp] at hT2
      have HT2 := Lib.hid hT2
      have ho2 := own_below ho (below1' wr (.cells #[.slice X (rowL c (Q x)).length cx] 22))
      have hzA : w.heap.size ≤ (wr.alloc (.cells #[.slice X (rowL c (Q x)).length cx] 22)).heap.size := by have := hb.size; simp; omega
      have hbyt : i + 1 ≤ 5864062014634 := by omega
      have hbA := hb.trans ((below1' wr (.cells #[.slice X (rowL c (Q x)).length cx] 22)).mono hb.size)
      have hat := at_lit1 wr (.slice X (rowL c (Q x)).length cx) 22
      clear hx hR hv hvf htk hRow hT hT2
      generalize (rowL c (Q x)).length = ll at *
      go_wp2_with fail
      refine HD.out.mono ?_
      rintro e w' ⟨rfl, rfl⟩
      go_wp2_with (at_builtin; refine app_head rfl (.tmp 14) (.tmp 18) rfl w.heap.size rfl ho2 rfl (news := [.slice X ll cx]) rfl hat (by intro u hu; rw [List.mem_singleton] at hu; subst hu; rfl) (by simp) hbyt hzA ?_; intro A5 c5 w5 ho5 hb5 hg5 hc5)
      exact ⟨⟨i + 1, A5, c5, _, by omega, by go_num, rfl, ho5, HT2.out, hbA.trans hb5⟩, by simp [intOf]; omega⟩
    · obtain rfl : i = l.length := by omega
      go_wp2_with fail
      go_ret
      refine ⟨A', cap, rfl, ⟨xs', own_at ho, ?_⟩, hb⟩
      have h2 := hT.below hb
      rw [List.take_length] at h2
      rwa [show (l.map fun x => rowL c (Q x)) = rowsL l.length c (fun i => Q (l.getD i 0)) from by
        apply List.ext_getElem?
        intro k
        by_cases hk : k < l.length
        · rw [rowsL_get hk]; simp [List.getD_eq_getElem?_getD, hk]
        · rw [List.getElem?_eq_none (by simpa using hk), List.getElem?_eq_none (by simpa using hk)]] at h2

end Go.Proofs.YtibidlgikecelaaDoor

namespace Go.Proofs.YtibidlgikecelaaDoor
open Go.RowKit
set_option linter.unusedVariables false
set_option linter.unusedSimpArgs false

/-- Shards of a code word: each is there, or missing. -/
structure Shards (w : World) (S : Option Addr) (vs : List Value) (LL : List (List B8)) (N c : Nat) (Q : Mx) : Prop where
  at' : At w S vs
  tx : Texts w vs LL
  len : N = LL.length
  row : ∀ (k : Nat) l, LL[k]? = some l → l = [] ∨ l = rowL c (Q k)
theorem Shards.below {w w' : World} {S : Option Addr} {vs : List Value} {LL : List (List B8)} {N c : Nat} {Q : Mx} (h : Shards w S vs LL N c Q) (hb : Below w.heap.size w w') : Shards w' S vs LL N c Q :=
  ⟨h.at'.below hb, h.tx.below hb, h.len, h.row⟩
theorem Shards.all {w : World} {S : Option Addr} {vs : List Value} {LL : List (List B8)} {N c : Nat} {Q : Mx} (h : Shards w S vs LL N c Q) : ∀ l, l ∈ LL → l = [] ∨ l.length = c := by
  intro l hl
  obtain ⟨k, hk, rfl⟩ := List.getElem_of_mem hl
  rcases h.row k _ (List.getElem?_eq_getElem hk) with h1 | h1
  · exact .inl h1
  · right; rw [h1]; simp
theorem Shards.pres {w : World} {S : Option Addr} {vs : List Value} {LL : List (List B8)} {N c : Nat} {Q : Mx} (h : Shards w S vs LL N c Q) {x : Nat} (hx : x ∈ presL LL N) : x < N ∧ LL[x]? = some (rowL c (Q x)) := by
  obtain ⟨h1, h2⟩ := presL_mem hx
  have hxl : x < LL.length := by rw [← h.len]; exact h1
  have hxx : LL[x]? = some LL[x] := List.getElem?_eq_getElem hxl
  refine ⟨h1, ?_⟩
  rcases h.row x _ hxx with h3 | h3
  · rw [List.getD_eq_getElem?_getD, hxx] at h2
    exact absurd h3 h2
  · rw [hxx, h3]

/-- Rows of a code word, turned back, are its data. -/
theorem back_data {K c : Nat} {l : List Nat} {B D : Mx} (hB : invM K (pickM (asInts l) (genM K)) = some B) :
    EqM K c (mulM K B (fun i => mulM K (genM K) D (l.getD i 0))) D := by
  intro i j hi hj
  have h1 := (inv_some hB).l
  have h2 : mulM K B (fun i => mulM K (genM K) D (l.getD i 0)) i j = mulM K B (mulM K (pickM (asInts l) (genM K)) D) i j := by
    unfold mulM
    refine xs_congr fun k hk => ?_
    rw [pick_nat]
  rw [h2, ← mulM_assoc]
  have h3 : mulM K (mulM K B (pickM (asInts l) (genM K))) D i j = mulM K oneM D i j := by
    refine xs_congr fun k hk => ?_
    have e : mulM K B (pickM (asInts l) (genM K)) i k = oneM i k := h1 i k hi hk
    show gm (mulM K B (pickM (asInts l) (genM K)) i k) (D k j) = gm (oneM i k) (D k j)
    rw [e]
  rw [h3, one_mulM D hi]

/-- The data that rows give, turned back. -/
def decD (K : Nat) (l : List Nat) (Q : Mx) : Mx := match invM K (pickM (asInts l) (genM K)) with | some B => mulM K B (fun i => Q (l.getD i 0)) | none => zeroM
theorem decD_some {K : Nat} {l : List Nat} {Q B : Mx} (h : invM K (pickM (asInts l) (genM K)) = some B) : decD K l Q = mulM K B (fun i => Q (l.getD i 0)) := by
  unfold decD; rw [h]
/-- Places of a code: their rows have an inverse. -/
theorem pres_inv {K M N : Nat} {LL : List (List B8)} (hNK : N = K + M) (hKM : K + M ≤ 255) (hp : K ≤ (presL LL N).length) : ∃ B, invM K (pickM (asInts ((presL LL N).take K)) (genM K)) = some B := by
  have hlK : ((presL LL N).take K).length = K := by simp; omega
  obtain ⟨B, hB⟩ := mds_inv (K := K) (l := (presL LL N).take K) hlK ((presL_nd LL N).sublist (List.take_sublist _ _)) (fun t ht => by have := (presL_mem (List.mem_of_mem_take ht)).1; omega) (by omega)
  rw [← pick_nat _ (genM K)] at hB
  exact ⟨B, hB⟩

set_option maxHeartbeats 1000000 in
set_option maxRecDepth 100000 in
theorem decode_gen {w : World} {K M N c cS : Nat} {S : Option Addr} {vs : List Value} {LL : List (List B8)} {Q : Mx} (hS : Shards w S vs LL N c Q) (hNK : N = K + M) (hK1 : 1 ≤ K) (hKM : K + M ≤ 255) (hc : 0 < c) (hc2 : c ≤ 1000)
    (hp : K ≤ (presL LL N).length) (hF : FoldAt w) :
    Calls Tryd.prog 53 #[.agg #[.int .i64 (K : Int), .int .i64 (M : Int)], .slice S N cS] w (RetO w N c (mulM K (genM K) (decD K ((presL LL N).take K) Q))) := by
  obtain ⟨bS, oS, rfl⟩ := some_of_at hS.at' (by rw [hS.tx.1, ← hS.len]; omega)
  have hb1 := below1' w (.cells #[.int .i64 (K : Int), .int .i64 (M : Int)] 38)
  have hk0 : (w.alloc (.cells #[.int .i64 (K : Int), .int .i64 (M : Int)] 38)).cell? ⟨w.heap.size, 0, none⟩ = some (.int .i64 (K : Int)) := cell_of_row _ _ 0 _ _ (0, 0) (heap_alloc_new w _)
  have hk1 : (w.alloc (.cells #[.int .i64 (K : Int), .int .i64 (M : Int)] 38)).cell? ⟨w.heap.size, 1, none⟩ = some (.int .i64 (M : Int)) := cell_of_row _ _ 1 _ _ (0, 0) (heap_alloc_new w _)
  have hs1 : (w.alloc (.cells #[.int .i64 (K : Int), .int .i64 (M : Int)] 38)).heap.size = w.heap.size + 1 := by simp
  have HNK := Lib.hid hNK
  have HLE := Lib.hid (presL_le LL N)
  clear hNK
  go_enter Tryd.func53, Tryd.ntmps53
  go_wp2_with fail
  generalize w.alloc (.cells #[.int .i64 (K : Int), .int .i64 (M : Int)] 38) = wa at *
  have hb2 := below1' wa (.cells #[.slice (some ⟨bS, oS, none⟩) N cS] 24)
  have hbox := box_cell wa (.slice (some ⟨bS, oS, none⟩) N cS) 24
  have hk0b := (hb2.cell (p := ⟨w.heap.size, 0, none⟩) (by simp; omega)).trans hk0
  have hk1b := (hb2.cell (p := ⟨w.heap.size, 1, none⟩) (by simp; omega)).trans hk1
  have hB2 := hb1.trans (hb2.mono hb1.size)
  have hs2 : (wa.alloc (.cells #[.slice (some ⟨bS, oS, none⟩) N cS] 24)).heap.size = w.heap.size + 2 := by simp; omega
  rw [hs1] at hbox
  generalize wa.alloc (.cells #[.slice (some ⟨bS, oS, none⟩) N cS] 24) = wb at *
  clear hk0 hk1 hb1 hb2
  refine (some_calls (c := c) (cS := cS) (hS.at'.below hB2) (hS.tx.below hB2) hS.len HNK.out hK1 hKM hS.all hc).mono ?_
  have hpm : ∀ x, x ∈ presL LL N → x < N ∧ LL[x]? = some (rowL c (Q x)) := fun x hx => hS.pres hx
  have hpn := presL_nd LL N
  generalize hpl : presL LL N = pl at *
  clear hpl
  rintro e w3 ⟨Al, cl, rfl, hAl, hlc, hnil, hb3⟩
  obtain ⟨bl, ol, rfl⟩ := some_of_at hAl (by simp; omega)
  have hB3 := hB2.trans (hb3.mono hB2.size)
  have hk03 := (hb3.cell (p := ⟨w.heap.size, 0, none⟩) (by simp; omega)).trans hk0b
  have hk13 := (hb3.cell (p := ⟨w.heap.size, 1, none⟩) (by simp; omega)).trans hk1b
  have hbox3 := (hb3.cell (p := ⟨w.heap.size + 1, 0, none⟩) (by simp; omega)).trans hbox
  have hfew : ¬ ((pl.length : Int) < (K : Int)) := by omega
  have hKc : (K : Int) ≤ (cl : Int) := by omega
  have hAK := hAl.take K
  rw [asInts_take] at hAK
  have hlK : (pl.take K).length = K := by simp; omega
  obtain ⟨Bk, hBk⟩ := mds_inv (K := K) (l := pl.take K) hlK (hpn.sublist (List.take_sublist _ _)) (fun t ht => by have := (hpm t (List.mem_of_mem_take ht)).1; have := HNK.out; omega) (by omega)
  rw [← pick_nat (pl.take K) (genM K)] at hBk
  have HDD := Lib.hid (decD_some (Q := Q) hBk)
  have HBK := Lib.hid hBk
  have HLK := Lib.hid hlK
  have hz3 := hb3.size
  have hin : ∀ y, y ∈ asInts (pl.take K) → 0 ≤ y ∧ y < ((K + M : Nat) : Int) := by
    intro y hy
    obtain ⟨t, ht, rfl⟩ := List.mem_map.1 hy
    have := (hpm t (List.mem_of_mem_take ht)).1
    have := HNK.out
    omega
  have hrow : ∀ (j x : Nat), (pl.take K)[j]? = some x → LL[x]? = some (rowL c (Q x)) := fun j x hx => (hpm x (List.mem_of_mem_take (List.mem_of_getElem? hx))).2
  generalize pl.take K = lk at *
  clear hk0b hk1b hbox hBk hlK hpm hpn hAl
  go_wp2_with fail
  refine (gener_calls hK1 hKM (FoldAt.below hF hB3)).mono ?_
  rintro e w4 ⟨g, blk, rfl, hG, hb4⟩
  have hX := hG.mat (by omega)
  have hB4 := hB3.trans (hb4.mono hB3.size)
  have hAK4 := hAK.below hb4
  have hbox4 := (hb4.cell (p := ⟨w.heap.size + 1, 0, none⟩) (by simp; omega)).trans hbox3
  have hz4 := hb4.size
  clear hG hb4 hAK hk03 hk13 hbox3
  go_wp2_with fail
  refine (rows_mat (m := K) hX hAK4 (by simp [HLK.out]) ⟨by omega, by omega⟩ ⟨by omega, by omega⟩ (by rw [length_asInts, HLK.out]; exact ⟨by omega, by omega⟩) hin).mono ?_
  rintro e w5 ⟨g5, rfl, hY, hb5⟩
  have hB5 := hB4.trans (hb5.mono hB4.size)
  have hX5 := hX.below hb5
  have hAK5 := hAK4.below hb5
  have hbox5 := (hb5.cell (p := ⟨w.heap.size + 1, 0, none⟩) (by simp; omega)).trans hbox4
  have HI := Lib.hid (invert_mat (cA := K) hY (by constructor <;> omega) (FoldAt.below hF hB5))
  rw [HBK.out] at HI
  have hz5 := hb5.size
  clear hX hAK4 hbox4 hb5 hY
  go_wp2_with fail
  refine HI.out.mono ?_
  rintro e w6 ⟨g6, b6, rfl, hI, hb6⟩
  have hBm := hI.mat (by omega)
  have hB6 := hB5.trans (hb6.mono hB5.size)
  have hX6 := hX5.below hb6
  have hAK6 := hAK5.below hb6
  have hbox6 := (hb6.cell (p := ⟨w.heap.size + 1, 0, none⟩) (by simp; omega)).trans hbox5
  have hS6 := hS.below hB6
  have hz6 := hb6.size
  clear hX5 hAK5 hbox5 hb6 hI HI
  have HE := Lib.hid (eachI_calls (cl := cl) (c := c) (m := K) hbox6 hS6.at' hS6.tx hS6.len hAK6 HLK.out.symm (by omega) hrow)
  go_wp2_with fail
  refine HE.out.mono ?_
  rintro e w7 ⟨A7, c7, rfl, hP, hb7⟩
  have hB7 := hB6.trans (hb7.mono hB6.size)
  have HT := Lib.hid (times_calls (cS := c7) (cA := K) hP (hBm.below hb7) hK1 (by omega) (by omega) (by omega) (FoldAt.below hF hB7))
  have hX7 := hX6.below hb7
  clear HE hX6 hAK6 hBm
  go_wp2_with fail
  refine HT.out.mono ?_
  rintro e w8 ⟨A8, c8, b8, rfl, hG8, hb8⟩
  have hB8 := hB7.trans (hb8.mono hB7.size)
  have hD8 := hG8.mat (by omega)
  have HT2 := Lib.hid (times_calls (cS := c8) (cA := K + M) hD8 (hX7.below hb8) hK1 (by omega) (by omega) (by omega) (FoldAt.below hF hB8))
  clear HT hG8 hX7
  go_wp2_with fail
  refine HT2.out.mono ?_
  rintro e w9 ⟨A9, c9, b9, rfl, hG9, hb9⟩
  go_wp2_with fail
  go_ret2
  have hNe := HNK.out
  rw [hNe, HDD.out]
  exact ⟨A9, c9, b9, rfl, hG9.lower hB8.size, hB8.trans (hb9.mono hB8.size)⟩

theorem RetO.congr {w : World} {r c : Nat} {M M' : Mx} {e : Ending} {w' : World} (h : RetO w r c M e w') (hM : EqM r c M M') : RetO w r c M' e w' := by
  obtain ⟨A, cap, blk, he, hG, hb⟩ := h
  exact ⟨A, cap, blk, he, hG.congr hM, hb⟩
theorem decD_word {K M N c : Nat} {LL : List (List B8)} {D : Mx} (hNK : N = K + M) (hKM : K + M ≤ 255) (hp : K ≤ (presL LL N).length) : EqM N c (mulM K (genM K) (decD K ((presL LL N).take K) (mulM K (genM K) D))) (mulM K (genM K) D) := by
  obtain ⟨B, hB⟩ := pres_inv hNK hKM hp
  rw [decD_some hB]
  exact mulM_congr (EqM.refl _ _ _) (back_data hB)
theorem decode_calls {w : World} {K M N c cS : Nat} {S : Option Addr} {vs : List Value} {LL : List (List B8)} {D : Mx} (hS : Shards w S vs LL N c (mulM K (genM K) D)) (hNK : N = K + M) (hK1 : 1 ≤ K) (hKM : K + M ≤ 255) (hc : 0 < c) (hc2 : c ≤ 1000)
    (hp : K ≤ (presL LL N).length) (hF : FoldAt w) :
    Calls Tryd.prog 53 #[.agg #[.int .i64 (K : Int), .int .i64 (M : Int)], .slice S N cS] w (RetO w N c (mulM K (genM K) D)) :=
  (decode_gen hS hNK hK1 hKM hc hc2 hp hF).mono fun e w' h => h.congr (decD_word hNK hKM hp)

end Go.Proofs.YtibidlgikecelaaDoor

namespace Go.Proofs.YtibidlgikecelaaDoor
open Go.RowKit
set_option linter.unusedVariables false
set_option linter.unusedSimpArgs false

set_option maxHeartbeats 1000000 in
set_option maxRecDepth 100000 in
theorem decode_few {w : World} {K M N c cS : Nat} {S : Option Addr} {vs : List Value} {LL : List (List B8)} {Q : Mx} (hS : Shards w S vs LL N c Q) (hNK : N = K + M) (hK1 : 1 ≤ K) (hKM : K + M ≤ 255) (hc : 0 < c)
    (hp : (presL LL N).length < K) :
    Calls Tryd.prog 53 #[.agg #[.int .i64 (K : Int), .int .i64 (M : Int)], .slice S N cS] w (RetE w 30) := by
  obtain ⟨bS, oS, rfl⟩ := some_of_at hS.at' (by rw [hS.tx.1, ← hS.len]; omega)
  have hb1 := below1' w (.cells #[.int .i64 (K : Int), .int .i64 (M : Int)] 38)
  have hk0 : (w.alloc (.cells #[.int .i64 (K : Int), .int .i64 (M : Int)] 38)).cell? ⟨w.heap.size, 0, none⟩ = some (.int .i64 (K : Int)) := cell_of_row _ _ 0 _ _ (0, 0) (heap_alloc_new w _)
  have hk1 : (w.alloc (.cells #[.int .i64 (K : Int), .int .i64 (M : Int)] 38)).cell? ⟨w.heap.size, 1, none⟩ = some (.int .i64 (M : Int)) := cell_of_row _ _ 1 _ _ (0, 0) (heap_alloc_new w _)
  have hs1 : (w.alloc (.cells #[.int .i64 (K : Int), .int .i64 (M : Int)] 38)).heap.size = w.heap.size + 1 := by simp
  have HNK := Lib.hid hNK
  clear hNK
  go_enter Tryd.func53, Tryd.ntmps53
  go_wp2_with fail
  generalize w.alloc (.cells #[.int .i64 (K : Int), .int .i64 (M : Int)] 38) = wa at *
  have hb2 := below1' wa (.cells #[.slice (some ⟨bS, oS, none⟩) N cS] 24)
  have hk0b := (hb2.cell (p := ⟨w.heap.size, 0, none⟩) (by simp; omega)).trans hk0
  have hk1b := (hb2.cell (p := ⟨w.heap.size, 1, none⟩) (by simp; omega)).trans hk1
  have hB2 := hb1.trans (hb2.mono hb1.size)
  have hs2 : (wa.alloc (.cells #[.slice (some ⟨bS, oS, none⟩) N cS] 24)).heap.size = w.heap.size + 2 := by simp; omega
  generalize wa.alloc (.cells #[.slice (some ⟨bS, oS, none⟩) N cS] 24) = wb at *
  clear hk0 hk1 hb1 hb2
  refine (some_calls (c := c) (cS := cS) (hS.at'.below hB2) (hS.tx.below hB2) hS.len HNK.out hK1 hKM hS.all hc).mono ?_
  generalize presL LL N = pl at *
  rintro e w3 ⟨Al, cl, rfl, hAl, hlc, hnil, hb3⟩
  have hB3 := hB2.trans (hb3.mono hB2.size)
  have hk03 := (hb3.cell (p := ⟨w.heap.size, 0, none⟩) (by simp; omega)).trans hk0b
  have hfew : (pl.length : Int) < (K : Int) := by omega
  clear hk0b hk1b
  go_wp2_with fail
  go_ret2
  exact ⟨rfl, hB3⟩

set_option maxHeartbeats 1000000 in
set_option maxRecDepth 100000 in
theorem repair_few {w : World} {K M N c cS i : Nat} {S : Option Addr} {vs : List Value} {LL : List (List B8)} {Q : Mx} (hS : Shards w S vs LL N c Q) (hNK : N = K + M) (hK1 : 1 ≤ K) (hKM : K + M ≤ 255) (hc : 0 < c)
    (hp : (presL LL N).length < K) (hi : i < K + M) :
    Calls Tryd.prog 52 #[.agg #[.int .i64 (K : Int), .int .i64 (M : Int)], .slice S N cS, .int .i64 (i : Int)] w (RetE w 30) := by
  have hb1 := below1' w (.cells #[.int .i64 (K : Int), .int .i64 (M : Int)] 38)
  have hk0 : (w.alloc (.cells #[.int .i64 (K : Int), .int .i64 (M : Int)] 38)).cell? ⟨w.heap.size, 0, none⟩ = some (.int .i64 (K : Int)) := cell_of_row _ _ 0 _ _ (0, 0) (heap_alloc_new w _)
  have hk1 : (w.alloc (.cells #[.int .i64 (K : Int), .int .i64 (M : Int)] 38)).cell? ⟨w.heap.size, 1, none⟩ = some (.int .i64 (M : Int)) := cell_of_row _ _ 1 _ _ (0, 0) (heap_alloc_new w _)
  have hs1 : (w.alloc (.cells #[.int .i64 (K : Int), .int .i64 (M : Int)] 38)).heap.size = w.heap.size + 1 := by simp
  have HNK := Lib.hid hNK
  have d1 : decide ((i : Int) < (0 : Int)) = false := decide_eq_false (by omega)
  have d2 : decide ((K : Int) + (M : Int) ≤ (i : Int)) = false := decide_eq_false (by omega)
  clear hNK
  go_enter Tryd.func52, Tryd.ntmps52
  go_wp2_with fail
  generalize w.alloc (.cells #[.int .i64 (K : Int), .int .i64 (M : Int)] 38) = wa at *
  refine (some_calls (c := c) (cS := cS) (hS.at'.below hb1) (hS.tx.below hb1) hS.len HNK.out hK1 hKM hS.all hc).mono ?_
  rintro e w3 ⟨Al, cl, rfl, hAl, hlc, hnil, hb3⟩
  have hB3 := hb1.trans (hb3.mono hb1.size)
  have hk03 := (hb3.cell (p := ⟨w.heap.size, 0, none⟩) (by simp; omega)).trans hk0
  have hk13 := (hb3.cell (p := ⟨w.heap.size, 1, none⟩) (by simp; omega)).trans hk1
  have HD := Lib.hid (decode_few (cS := cS) (hS.below hB3) HNK.out hK1 hKM hc hp)
  clear hk0 hk1 hAl hlc
  generalize presL LL N = pl at *
  go_wp2_with fail
  refine HD.out.mono ?_
  rintro e w4 ⟨rfl, hb4⟩
  go_wp2_with fail
  go_ret2
  exact ⟨rfl, hB3.trans (hb4.mono hB3.size)⟩

/-- A row, and OK. -/
def RetRowO (w : World) (c : Nat) (f : Nat → B8) (e : Ending) (w' : World) : Prop :=
  ∃ b, e = .returned (.tuple #[.slice (some ⟨b, 0, none⟩) c c, .int .i64 0]) ∧ RowB w' b (rowL c f) ∧ Below w.heap.size w w'
set_option maxHeartbeats 1000000 in
set_option maxRecDepth 100000 in
theorem repair_gen {w : World} {K M N c cS i : Nat} {S : Option Addr} {vs : List Value} {LL : List (List B8)} {Q : Mx} (hS : Shards w S vs LL N c Q) (hNK : N = K + M) (hK1 : 1 ≤ K) (hKM : K + M ≤ 255) (hc : 0 < c) (hc2 : c ≤ 1000)
    (hp : K ≤ (presL LL N).length) (hi : i < K + M) (hF : FoldAt w) :
    Calls Tryd.prog 52 #[.agg #[.int .i64 (K : Int), .int .i64 (M : Int)], .slice S N cS, .int .i64 (i : Int)] w (RetRowO w c (mulM K (genM K) (decD K ((presL LL N).take K) Q) i)) := by
  have hb1 := below1' w (.cells #[.int .i64 (K : Int), .int .i64 (M : Int)] 38)
  have hk0 : (w.alloc (.cells #[.int .i64 (K : Int), .int .i64 (M : Int)] 38)).cell? ⟨w.heap.size, 0, none⟩ = some (.int .i64 (K : Int)) := cell_of_row _ _ 0 _ _ (0, 0) (heap_alloc_new w _)
  have hk1 : (w.alloc (.cells #[.int .i64 (K : Int), .int .i64 (M : Int)] 38)).cell? ⟨w.heap.size, 1, none⟩ = some (.int .i64 (M : Int)) := cell_of_row _ _ 1 _ _ (0, 0) (heap_alloc_new w _)
  have hs1 : (w.alloc (.cells #[.int .i64 (K : Int), .int .i64 (M : Int)] 38)).heap.size = w.heap.size + 1 := by simp
  have HNK := Lib.hid hNK
  have d1 : decide ((i : Int) < (0 : Int)) = false := decide_eq_false (by omega)
  have d2 : decide ((K : Int) + (M : Int) ≤ (i : Int)) = false := decide_eq_false (by omega)
  have hiN : i < N := by omega
  have hiNi : (i : Int) < (N : Int) := by omega
  clear hNK
  go_enter Tryd.func52, Tryd.ntmps52
  go_wp2_with fail
  generalize w.alloc (.cells #[.int .i64 (K : Int), .int .i64 (M : Int)] 38) = wa at *
  refine (some_calls (c := c) (cS := cS) (hS.at'.below hb1) (hS.tx.below hb1) hS.len HNK.out hK1 hKM hS.all hc).mono ?_
  rintro e w3 ⟨Al, cl, rfl, hAl, hlc, hnil, hb3⟩
  have hB3 := hb1.trans (hb3.mono hb1.size)
  have hk03 := (hb3.cell (p := ⟨w.heap.size, 0, none⟩) (by simp; omega)).trans hk0
  have hk13 := (hb3.cell (p := ⟨w.heap.size, 1, none⟩) (by simp; omega)).trans hk1
  have HD := Lib.hid (decode_gen (cS := cS) (hS.below hB3) HNK.out hK1 hKM hc hc2 hp (FoldAt.below hF hB3))
  clear hk0 hk1 hAl hlc
  generalize presL LL N = pl at *
  go_wp2_with fail
  refine HD.out.mono ?_
  rintro e w4 ⟨A4, c4, b4, rfl, hG, hb4⟩
  obtain ⟨g4, rfl, _, hci, _, _⟩ := hG.cell hiN
  have hrow := hG.row i hiN
  clear HD
  go_wp2_with fail
  go_ret2
  exact ⟨_, rfl, hrow, hB3.trans (hb4.mono hB3.size)⟩

theorem repair_calls {w : World} {K M N c cS i : Nat} {S : Option Addr} {vs : List Value} {LL : List (List B8)} {D : Mx} (hS : Shards w S vs LL N c (mulM K (genM K) D)) (hNK : N = K + M) (hK1 : 1 ≤ K) (hKM : K + M ≤ 255) (hc : 0 < c) (hc2 : c ≤ 1000)
    (hp : K ≤ (presL LL N).length) (hi : i < K + M) (hF : FoldAt w) :
    Calls Tryd.prog 52 #[.agg #[.int .i64 (K : Int), .int .i64 (M : Int)], .slice S N cS, .int .i64 (i : Int)] w (RetRowO w c (mulM K (genM K) D i)) := by
  refine (repair_gen hS hNK hK1 hKM hc hc2 hp hi hF).mono ?_
  rintro e w' ⟨b, h1, h2, h3⟩
  refine ⟨b, h1, ?_, h3⟩
  rwa [rowL_congr (fun j hj => decD_word (c := c) (D := D) hNK hKM hp i j (by omega) hj)] at h2

end Go.Proofs.YtibidlgikecelaaDoor
