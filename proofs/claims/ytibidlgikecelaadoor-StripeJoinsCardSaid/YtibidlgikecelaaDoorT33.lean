/- Contracts: amphoraref04.Join, of anything. -/
import Derived.Test.YtibidlgikecelaaDoorT32
import Derived.Test.YtibidlgikecelaaDoorT29
namespace Go.Proofs.YtibidlgikecelaaDoor
open Go.RowKit
set_option linter.unusedVariables false
set_option linter.unusedSimpArgs false

theorem cutA_nilJ (X : Option Addr) (c : Nat) : cutA X 0 c = X := by
  unfold cutA
  split
  · rfl
  · cases X with
    | none => rfl
    | some a => simp [Addr.add]

theorem joinB_odd {K M s : Int} {LL : List (List B8)} (h : joinB K M s LL) : oddB LL (presL LL LL.length) = false := by
  have hall : ∀ x, x ∈ presL LL LL.length → lenAt LL x = lenS K.toNat s.toNat := by
    intro x hx
    obtain ⟨h1, h2⟩ := presL_mem hx
    have h3 := h.2.2 x h1
    unfold badJ at h3
    have hne : (((LL.getD x []).length : Int) != 0) = true := by
      have := List.length_pos_iff.2 h2
      exact bne_iff_ne.2 (by omega)
    rw [hne, Bool.true_and] at h3
    have := bne_eq_false_iff_eq.1 h3
    unfold lenAt
    omega
  refine oddB_no fun j x hx => ?_
  rw [hall x (List.mem_of_getElem? hx)]
  have h0 : 0 < (presL LL LL.length).length := by have := (List.getElem?_eq_some_iff.1 hx).1; omega
  have h1 : (presL LL LL.length)[0]? = some (presL LL LL.length)[0] := List.getElem?_eq_getElem h0
  rw [getD_some h1, hall _ (List.getElem_mem h0)]

theorem joinD_unit {K u k n : Nat} {Q : Mx} (hk : k < K) (hu : 8 * u + 8 ≤ n) : ((rowL n (Q k)).drop (8 * u)).take 8 = unitL (joinD K Q) (u * K + k) := by
  apply List.ext_getElem?
  intro j
  unfold unitL
  by_cases hj : j < 8
  · rw [List.getElem?_take, if_pos hj, List.getElem?_drop, List.getElem?_map, List.getElem?_range hj, rowL_get (by omega)]
    simp only [Option.map_some]
    unfold joinD
    have e1 : (8 * (u * K + k) + j) / 8 = u * K + k := by omega
    have e2 : (u * K + k) % K = k := by rw [Nat.add_comm, Nat.add_mul_mod_self_right, Nat.mod_eq_of_lt hk]
    have e3 : (8 * (u * K + k) + j) / (8 * K) = u := by
      rw [← Nat.div_div_eq_div_mul, e1, Nat.add_comm, Nat.add_mul_div_right _ _ (by omega), Nat.div_eq_of_lt hk, Nat.zero_add]
    have e4 : (8 * (u * K + k) + j) % 8 = j := by omega
    rw [e1, e2, e3, e4, Nat.mul_comm u 8]
  · rw [List.getElem?_take, if_neg hj, List.getElem?_eq_none (by simp; omega)]

set_option maxHeartbeats 2000000 in
set_option maxRecDepth 100000 in
theorem rjoin_few {w : World} {K M s cS : Nat} {S : Option Addr} {vs : List Value} {LL : List (List B8)} {Q : Mx} (hS : Shards w S vs LL LL.length (lenS K s) Q) (hj : joinB K M s LL) (hp : (presL LL LL.length).length < K) :
    Calls Tryd.prog 58 #[.agg #[.int .i64 (K : Int), .int .i64 (M : Int)], .int .i64 (s : Int), .slice S LL.length cS] w (RetE w 30) := by
  have hod := joinB_odd hj
  obtain ⟨wb, hwb, hB2, hk0, hk1, hsz⟩ := code_box w (K : Int) (M : Int)
  have HWB := Lib.hid hwb
  clear hwb
  obtain ⟨⟨⟨c1, c2, c3, c4⟩, h1, h2⟩, h3, h4⟩ := hj
  have hK1 : 1 ≤ K := by omega
  have hKM : K + M ≤ 255 := by omega
  have hs : s ≤ 400 := by omega
  have HLE := Lib.hid (rlength_calls (w := wb) (s := s) hK1 hKM hs)
  have hn1 := lenS_le hK1 hs
  have hn2 := lenS_pos K s
  have hrm := lenS_room (s := s) hK1
  simp only [Int.toNat_natCast] at h4
  have HQ : Hid (lenS K s = 8 * (lenS K s / 8)) := lenS_mul K s
  have hq8 : lenS K s / 8 ≤ 125 := by omega
  have hquo : ((lenS K s : Nat) : Int) / 8 = ((lenS K s / 8 : Nat) : Int) := by rw [Int.natCast_ediv]; rfl
  generalize lenS K s / 8 = q at *
  generalize lenS K s = nn at *
  have hnz : ((nn : Int) == 0) = false := by simp; omega
  have hne : ((LL.length : Int) != (K : Int) + (M : Int)) = false := by simp; omega
  have HJ := Lib.hid h4
  have hS1 := hS.at'
  have hS2 := hS.tx
  have hN0 : 0 < LL.length := by omega
  obtain ⟨bS, oS, rfl⟩ := some_of_at hS1 (by rw [hS2.1]; exact hN0)
  have hNm : LL.length ≤ 255 := by omega
  have H3 := Lib.hid (show LL.length = K + M by omega)
  clear h4 hS2 h3
  go_enter Tryd.func58, Tryd.ntmps58
  go_wp2_with fail
  have hwb := HWB.out
  rw [← hwb]
  clear hwb HWB
  refine HLE.out.mono ?_
  rintro e w2 ⟨rfl, hb2⟩
  have hB3 := hB2.trans (hb2.mono hB2.size)
  have k0 := (hb2.cell (p := ⟨w.heap.size, 0, none⟩) (block_lt hk0)).trans hk0
  have k1 := (hb2.cell (p := ⟨w.heap.size, 1, none⟩) (block_lt hk1)).trans hk1
  clear hk0 hk1 HLE hb2 hB2
  go_wp2_with fail
  go_loop [33] (fun s33 => ∃ t : Nat, t ≤ LL.length ∧ s33 = .int .i64 ((t : Nat) : Int)) (fun s33 => LL.length - (intOf s33).toNat)
  case atStart => exact ⟨0, by omega, rfl⟩
  case round =>
    obtain ⟨t, ht, rfl⟩ := hrel
    by_cases htN : t < LL.length
    · have hti : (t : Int) < (LL.length : Int) := by omega
      obtain ⟨X, cx, hcx, hX, _, _⟩ := head_at hS1 hS.tx (List.getElem?_eq_getElem htN)
      have hcw := (hB3.cell (p := ⟨bS, oS + t, none⟩) (block_lt hcx)).trans hcx
      have hbj := HJ.out t htN
      unfold badJ at hbj
      rw [List.getD_eq_getElem?_getD, List.getElem?_eq_getElem htN] at hbj
      simp only [Option.getD_some] at hbj
      generalize LL[t] = l at *
      by_cases hl : l.length = 0
      · have hl0 : ((l.length : Int) != 0) = false := by rw [hl]; rfl
        clear hbj hcx hX
        go_wp2_with fail
        exact ⟨⟨t + 1, by omega, by go_num⟩, by simp [intOf]; omega⟩
      · have hl0 : ((l.length : Int) != 0) = true := bne_iff_ne.2 (by omega)
        rw [hl0, Bool.true_and] at hbj
        clear hcx hX
        go_wp2_with fail
        exact ⟨⟨t + 1, by omega, by go_num⟩, by simp [intOf]; omega⟩
    · obtain rfl : LL.length = t := by omega
      have HD := Lib.hid (rdecode_few (cS := cS) (hS1.below hB3) (hS.tx.below hB3) rfl H3.out hK1 hKM hod hp)
      go_wp2_with fail
      refine HD.out.mono ?_
      rintro e w4 ⟨rfl, hb4⟩
      go_wp2_with fail
      go_ret2
      exact ⟨rfl, hB3.trans (hb4.mono hB3.size)⟩

set_option maxHeartbeats 4000000 in
set_option maxRecDepth 100000 in
theorem rjoin_gen {w : World} {K M s cS : Nat} {S : Option Addr} {vs : List Value} {LL : List (List B8)} {Q : Mx} (hS : Shards w S vs LL LL.length (lenS K s) Q) (hj : joinB K M s LL) (hp : K ≤ (presL LL LL.length).length) :
    Calls Tryd.prog 58 #[.agg #[.int .i64 (K : Int), .int .i64 (M : Int)], .int .i64 (s : Int), .slice S LL.length cS] w (RetBy w ((rowL (lenS K s * K) (joinD K (mulM K (genM K) (decD K ((presL LL LL.length).take K) Q)))).take s) 0) := by
  have hod := joinB_odd hj
  obtain ⟨wb, hwb, hB2, hk0, hk1, hsz⟩ := code_box w (K : Int) (M : Int)
  have HWB := Lib.hid hwb
  clear hwb
  obtain ⟨⟨⟨c1, c2, c3, c4⟩, h1, h2⟩, h3, h4⟩ := hj
  have hK1 : 1 ≤ K := by omega
  have hKM : K + M ≤ 255 := by omega
  have hs : s ≤ 400 := by omega
  have HLE := Lib.hid (rlength_calls (w := wb) (s := s) hK1 hKM hs)
  have hn1 := lenS_le hK1 hs
  have hn2 := lenS_pos K s
  have hrm := lenS_room (s := s) hK1
  simp only [Int.toNat_natCast] at h4
  have HQ : Hid (lenS K s = 8 * (lenS K s / 8)) := lenS_mul K s
  have hq8 : lenS K s / 8 ≤ 125 := by omega
  have hquo : ((lenS K s : Nat) : Int) / 8 = ((lenS K s / 8 : Nat) : Int) := by rw [Int.natCast_ediv]; rfl
  generalize lenS K s / 8 = q at *
  generalize lenS K s = nn at *
  have hnz : ((nn : Int) == 0) = false := by simp; omega
  have hne : ((LL.length : Int) != (K : Int) + (M : Int)) = false := by simp; omega
  have HJ := Lib.hid h4
  have hS1 := hS.at'
  have hS2 := hS.tx
  have hN0 : 0 < LL.length := by omega
  obtain ⟨bS, oS, rfl⟩ := some_of_at hS1 (by rw [hS2.1]; exact hN0)
  have hNm : LL.length ≤ 255 := by omega
  have H3 := Lib.hid (show LL.length = K + M by omega)
  clear h4 hS2 h3
  go_enter Tryd.func58, Tryd.ntmps58
  go_wp2_with fail
  have hwb := HWB.out
  rw [← hwb]
  clear hwb HWB
  refine HLE.out.mono ?_
  rintro e w2 ⟨rfl, hb2⟩
  have hB3 := hB2.trans (hb2.mono hB2.size)
  have k0 := (hb2.cell (p := ⟨w.heap.size, 0, none⟩) (block_lt hk0)).trans hk0
  have k1 := (hb2.cell (p := ⟨w.heap.size, 1, none⟩) (block_lt hk1)).trans hk1
  clear hk0 hk1 HLE hb2 hB2
  go_wp2_with fail
  go_loop [33] (fun s33 => ∃ t : Nat, t ≤ LL.length ∧ s33 = .int .i64 ((t : Nat) : Int)) (fun s33 => LL.length - (intOf s33).toNat)
  case atStart => exact ⟨0, by omega, rfl⟩
  case round =>
    obtain ⟨t, ht, rfl⟩ := hrel
    by_cases htN : t < LL.length
    · have hti : (t : Int) < (LL.length : Int) := by omega
      obtain ⟨X, cx, hcx, hX, _, _⟩ := head_at hS1 hS.tx (List.getElem?_eq_getElem htN)
      have hcw := (hB3.cell (p := ⟨bS, oS + t, none⟩) (block_lt hcx)).trans hcx
      have hbj := HJ.out t htN
      unfold badJ at hbj
      rw [List.getD_eq_getElem?_getD, List.getElem?_eq_getElem htN] at hbj
      simp only [Option.getD_some] at hbj
      generalize LL[t] = l at *
      by_cases hl : l.length = 0
      · have hl0 : ((l.length : Int) != 0) = false := by rw [hl]; rfl
        clear hbj hcx hX
        go_wp2_with fail
        exact ⟨⟨t + 1, by omega, by go_num⟩, by simp [intOf]; omega⟩
      · have hl0 : ((l.length : Int) != 0) = true := bne_iff_ne.2 (by omega)
        rw [hl0, Bool.true_and] at hbj
        clear hcx hX
        go_wp2_with fail
        exact ⟨⟨t + 1, by omega, by go_num⟩, by simp [intOf]; omega⟩
    · obtain rfl : LL.length = t := by omega
      have HD := Lib.hid (rdecode_calls (cS := cS) (hS.below hB3) H3.out hK1 hKM (by omega) hn1 hp hod)
      generalize hDD : mulM K (genM K) (decD K ((presL LL LL.length).take K) Q) = P at HD
      have HDD := Lib.hid hDD
      have HF := fun (k u : Nat) (hk : k < K) (hu : 8 * u + 8 ≤ nn) => Lib.hid (joinD_unit (Q := P) hk hu)
      generalize hFF : joinD K P = F at HF
      have HFF := Lib.hid hFF
      clear hDD hFF hod
      go_wp2_with fail
      refine HD.out.mono ?_
      rintro e w4 ⟨A9, c9, v9, rfl, g1, g2, hb4⟩
      rw [length_rowsL] at *
      obtain ⟨b9, o9, rfl⟩ := some_of_at g1 (by rw [g2.1, length_rowsL]; exact hN0)
      have hB4 := hB3.trans (hb4.mono hB3.size)
      have k04 := (hb4.cell (p := ⟨w.heap.size, 0, none⟩) (block_lt k0)).trans k0
      clear k0 k1 hb4 HD hB3 hS1 hS
      go_wp2_with fail
      have hnil : w4.ownsRow w4.heap.size 5 1 (.slice none (8 * (0 * K)) 0) (8 * (0 * K)) (bys (rowL (8 * (0 * K)) F)) := by
        rw [Nat.zero_mul]; exact World.ownsRow_nil _ _ _ _
      go_loopw [13, 58] (fun s13 s58 wr => ∃ (u : Nat) (A' : Option Addr) (cap : Nat), u ≤ q ∧ s58 = .int .i64 ((u : Nat) : Int) ∧ s13 = .slice A' (8 * (u * K)) cap ∧ wr.ownsRow w4.heap.size 5 1 (.slice A' (8 * (u * K)) cap) (8 * (u * K)) (bys (rowL (8 * (u * K)) F)) ∧ Below w4.heap.size w4 wr) (fun _ s58 _ => q - (intOf s58).toNat)
      case atStart => exact ⟨0, none, 0, by omega, rfl, by rw [Nat.zero_mul], hnil, Below.refl _ _⟩
      case round =>
        obtain ⟨u, A', cap, hu, rfl, rfl, hO, hb⟩ := hrel
        rename World => w5
        clear hnil
        by_cases huq : u < q
        · have hui : (u : Int) < (q : Int) := by omega
          have k05 := (hb.cell (p := ⟨w.heap.size, 0, none⟩) (block_lt k04)).trans k04
          have hub : u * K ≤ 125 * 255 := Nat.mul_le_mul (by omega) (by omega)
          have hsucc : (u + 1) * K = u * K + K := Nat.succ_mul u K
          have HFU := fun (k : Nat) (hk : k < K) => HF k u hk (by have := HQ.out; omega)
          generalize hpu : u * K = pu at *
          have HPU := Lib.hid hpu
          have HSU := Lib.hid hsucc
          clear hpu hsucc HF
          go_wp2_with fail
          go_loopw [13, 63] (fun s13 s63 wr => ∃ (k : Nat) (A' : Option Addr) (cap : Nat), k ≤ K ∧ s63 = .int .i64 ((k : Nat) : Int) ∧ s13 = .slice A' (8 * (pu + k)) cap ∧ wr.ownsRow w4.heap.size 5 1 (.slice A' (8 * (pu + k)) cap) (8 * (pu + k)) (bys (rowL (8 * (pu + k)) F)) ∧ Below w4.heap.size w4 wr) (fun _ s63 _ => K - (intOf s63).toNat)
          case atStart => exact ⟨0, A', cap, by omega, rfl, rfl, hO, hb⟩
          case round =>
            obtain ⟨k, Ak, ck, hk, rfl, rfl, hOk, hbk⟩ := hrel
            rename World => wk
            clear hO hb k05
            by_cases hkK : k < K
            · have hki : (k : Int) < (K : Int) := by omega
              have hkN : (k : Int) < (LL.length : Int) := by have := H3.out; omega
              obtain ⟨X, cx, hcx, hX, hXc, _⟩ := row_head g1 g2 (show k < LL.length by have := H3.out; omega)
              obtain ⟨bx, ox, rfl⟩ := some_of_at hX (by simp; omega)
              have hcw := (hbk.cell (p := ⟨b9, o9 + k, none⟩) (block_lt hcx)).trans hcx
              have hch := ((hX.below hbk).drop (8 * u) cx (by simpa using hXc)).take 8
              have hq := HQ.out
              rw [bys_drop, bys_take, cutA_some (by omega), (HFU k hkK).out] at hch
              have hchl : (unitL F (pu + k)).length = 8 := by unfold unitL; simp
              have hrow : rowL (8 * (pu + (k + 1))) F = rowL (8 * (pu + k)) F ++ unitL F (pu + k) := by rw [← rowL_unit, show 8 * (pu + (k + 1)) = 8 * (pu + k) + 8 by omega]
              have HROW := Lib.hid hrow
              generalize unitL F (pu + k) = ch at *
              have hcut : ∀ w, (Instr.sliceAt 22 (.slice (some ⟨bx, ox, none⟩) nn cx) (some (.int .i64 (8 * (u : Int)))) (some (.int .i64 (8 * (u : Int) + 8))) none).run Tryd.prog w = .ok (.slice (some ⟨bx, ox + 8 * u, none⟩) 8 (cx - 8 * u)) w := fun w => cut_eq (8 * u) (8 * u + 8) (.inr (by rw [show 8 * (u : Int) = ((8 * u : Nat) : Int) by omega])) (.inr (by rw [show 8 * (u : Int) + 8 = ((8 * u + 8 : Nat) : Int) by omega])) (by omega) (by omega) (cutA_some (by omega)) (by omega) rfl w
              have hbase := hbk.size
              clear hcx hX hrow hq
              go_wp2_with (at_builtin; refine app_bytes rfl (.tmp 66) (.tmp 76) rfl w4.heap.size rfl hOk rfl hchl hch (by intro h; cases h) (by omega) hbase ?_; intro A6 c6 w6 ho6 hb6 hg6 hc6)
              have ho7 : w6.ownsRow w4.heap.size 5 1 (.slice A6 (8 * (pu + (k + 1))) c6) (8 * (pu + (k + 1))) (bys (rowL (8 * (pu + (k + 1))) F)) := by
                rw [HROW.out]; exact ho6
              exact ⟨⟨k + 1, A6, c6, by omega, by go_num, rfl, ho7, hbk.trans hb6⟩, by simp [intOf]; omega⟩
            · obtain rfl : K = k := by omega
              go_wp2_with fail
              refine ⟨⟨u + 1, Ak, ck, by omega, by go_num, ?_, ?_, hbk⟩, by simp [intOf]; omega⟩
              · rw [HSU.out]
              · rw [HSU.out]; exact hOk
        · obtain rfl : q = u := by omega
          have hqK : 8 * (q * K) = nn * K := by rw [HQ.out, Nat.mul_assoc]
          rw [hqK] at hO
          rw [hqK]
          have hcp := own_le hO
          have hcut : ∀ w, (Instr.sliceAt 22 (.slice A' (nn * K) cap) none (some (.int .i64 (s : Int))) none).run Tryd.prog w = .ok (.slice A' s cap) w := fun w => cut_eq 0 s (.inl ⟨rfl, rfl⟩) (.inr rfl) (by omega) (by omega) (cutA_nilJ A' cap) (by omega) (by omega) w
          have hat := (own_at hO).take s
          rw [bys_take] at hat
          have hls : ((rowL (nn * K) F).take s).length = s := by simp; omega
          clear HF
          go_wp2_with fail
          go_ret2
          rw [HDD.out, HFF.out]
          exact ⟨A', cap, by rw [hls]; rfl, hat, hB4.trans (hb.mono hB4.size)⟩

set_option maxHeartbeats 2000000 in
set_option maxRecDepth 100000 in
theorem rjoin_bad {w : World} {K M s : Int} {N cS : Nat} {S : Option Addr} {LL : List (List B8)} (hS : LAt w S LL) (hN : N = LL.length) (h : ¬ joinB K M s LL) :
    Calls Tryd.prog 58 #[.agg #[.int .i64 K, .int .i64 M], .int .i64 s, .slice S N cS] w (RetE w 1) := by
  obtain ⟨wb, hwb, hB2, hk0, hk1, hsz⟩ := code_box w K M
  have HWB := Lib.hid hwb
  clear hwb
  have HLE := Lib.hid (rlength_x (w := wb) K M s)
  unfold lenZ at HLE
  by_cases hl : lenB K M s
  · rw [if_pos hl] at HLE
    obtain ⟨⟨c1, c2, c3, c4⟩, h1, h2⟩ := hl
    have hnn := lenS_pos K.toNat s.toNat
    have hnn2 := lenS_le (K := K.toNat) (s := s.toNat) (by omega) (by omega)
    have hl := (⟨⟨c1, c2, c3, c4⟩, h1, h2⟩ : lenB K M s)
    unfold joinB at h
    generalize lenS K.toNat s.toNat = nn at *
    have hnz : ((nn : Int) == 0) = false := by simp; omega
    by_cases hlen : (N : Int) = K + M
    · have HANY : Hid (¬ ∀ i, i < LL.length → badJ LL nn i = false) := fun hall => h ⟨hl, by omega, hall⟩
      have hne : ((N : Int) != K + M) = false := by simp; omega
      have HLN := Lib.hid hlen
      have hN0 : 0 < N := by omega
      have hNm : N ≤ 255 := by omega
      obtain ⟨vs, hA, hT⟩ := hS
      obtain ⟨bS, oS, rfl⟩ := some_of_at hA (by rw [hT.1]; omega)
      have HN := Lib.hid hN
      clear h hl hN hlen
      go_enter Tryd.func58, Tryd.ntmps58
      go_wp2_with fail
      have hwb := HWB.out
      rw [← hwb]
      clear hwb
      refine HLE.out.mono ?_
      rintro e w3 ⟨rfl, hb3⟩
      have hB3 := hB2.trans (hb3.mono hB2.size)
      have hk03 := (hb3.cell (p := ⟨w.heap.size, 0, none⟩) (block_lt hk0)).trans hk0
      have hk13 := (hb3.cell (p := ⟨w.heap.size, 1, none⟩) (block_lt hk1)).trans hk1
      clear hk0 hk1 hb3 HLE
      go_wp2_with fail
      go_loop [33] (fun s33 => ∃ t : Nat, t ≤ N ∧ s33 = .int .i64 ((t : Nat) : Int) ∧ Hid (∀ i, i < t → badJ LL nn i = false)) (fun s33 => N - (intOf s33).toNat)
      case atStart => exact ⟨0, by omega, rfl, fun i hi => by omega⟩
      case round =>
        obtain ⟨t, ht, rfl, HALL⟩ := hrel
        by_cases htN : t < N
        · have hti : (t : Int) < (N : Int) := by omega
          have htL : t < LL.length := by have := HN.out; omega
          obtain ⟨X, cx, hcx, hX, _, _⟩ := head_at hA hT (List.getElem?_eq_getElem htL)
          have hcw := (hB3.cell (p := ⟨bS, oS + t, none⟩) (block_lt hcx)).trans hcx
          have hbj : badJ LL nn t = (((LL[t].length : Int) != 0) && ((LL[t].length : Int) != (nn : Int))) := by
            unfold badJ
            rw [List.getD_eq_getElem?_getD, List.getElem?_eq_getElem htL]
            rfl
          generalize LL[t] = l at *
          by_cases hl : l.length = 0
          · have hl0 : ((l.length : Int) != 0) = false := by rw [hl]; rfl
            rw [hl0, Bool.false_and] at hbj
            have HBJ := Lib.hid hbj
            clear hbj hcx hX
            go_wp2_with fail
            refine ⟨⟨t + 1, by omega, by go_num, fun i hi => ?_⟩, by simp [intOf]; omega⟩
            by_cases hit : i < t
            · exact HALL.out i hit
            · obtain rfl : i = t := by omega
              exact HBJ.out
          · have hl0 : ((l.length : Int) != 0) = true := bne_iff_ne.2 (by omega)
            rw [hl0, Bool.true_and] at hbj
            by_cases hln : l.length = nn
            · have hl1 : ((l.length : Int) != (nn : Int)) = false := by rw [hln]; simp
              rw [hl1] at hbj
              have HBJ := Lib.hid hbj
              clear hbj hcx hX
              go_wp2_with fail
              refine ⟨⟨t + 1, by omega, by go_num, fun i hi => ?_⟩, by simp [intOf]; omega⟩
              by_cases hit : i < t
              · exact HALL.out i hit
              · obtain rfl : i = t := by omega
                exact HBJ.out
            · have hl1 : ((l.length : Int) != (nn : Int)) = true := bne_iff_ne.2 (by omega)
              clear hbj hcx hX
              go_wp2_with fail
              go_ret2
              exact ⟨rfl, hB3⟩
        · exact absurd (fun i hi => HALL.out i (by have := HN.out; omega)) HANY.out
    · have hne : ((N : Int) != K + M) = true := by simp; omega
      clear h hl hS
      go_enter Tryd.func58, Tryd.ntmps58
      go_wp2_with fail
      have hwb := HWB.out
      rw [← hwb]
      clear hwb
      refine HLE.out.mono ?_
      rintro e w3 ⟨rfl, hb3⟩
      have hB3 := hB2.trans (hb3.mono hB2.size)
      have hk03 := (hb3.cell (p := ⟨w.heap.size, 0, none⟩) (block_lt hk0)).trans hk0
      have hk13 := (hb3.cell (p := ⟨w.heap.size, 1, none⟩) (block_lt hk1)).trans hk1
      clear hk0 hk1 hb3 HLE
      go_wp2_with fail
      go_ret2
      exact ⟨rfl, hB3⟩
  · rw [if_neg hl] at HLE
    clear h hl hS
    go_enter Tryd.func58, Tryd.ntmps58
    go_wp2_with fail
    have hwb := HWB.out
    rw [← hwb]
    clear hwb
    refine HLE.out.mono ?_
    rintro e w3 ⟨rfl, hb3⟩
    have hB3 := hB2.trans (hb3.mono hB2.size)
    clear hk0 hk1 hb3 HLE
    go_wp2_with fail
    go_ret2
    exact ⟨rfl, hB3⟩

open Classical in
/-- What Join answers of anything. -/
noncomputable def joinE (K M s : Int) (LL : List (List B8)) : Int := if joinB K M s LL then (if ((presL LL LL.length).length : Int) < K then 30 else 0) else 1
open Classical in
noncomputable def joinL (K M s : Int) (LL : List (List B8)) : List B8 := if joinB K M s LL then (if ((presL LL LL.length).length : Int) < K then [] else
  (rowL (lenS K.toNat s.toNat * K.toNat) (joinD K.toNat (mulM K.toNat (genM K.toNat) (decD K.toNat ((presL LL LL.length).take K.toNat) (mxOf LL))))).take s.toNat) else []
theorem RetE.by' {w : World} {k : Int} {e : Ending} {w' : World} (h : RetE w k e w') : RetBy w [] k e w' := ⟨none, 0, h.1, At.nil _ _, h.2⟩
theorem joinL_len {K M s : Nat} {f : Nat → B8} (hK : 1 ≤ K) : ((rowL (lenS K s * K) f).take s).length = s := by
  have := lenS_room (s := s) hK
  simp; omega

theorem join_x {w : World} {K M s : Int} {N cS : Nat} {S : Option Addr} {LL : List (List B8)} (hS : LAt w S LL) (hN : N = LL.length) (hmax : N ≤ 5864062014634) (hF : FoldAt w) :
    Calls Tryd.prog 57 #[.agg #[.int .i64 K, .int .i64 M], .int .i64 s, .slice S N cS] w (RetBy w (joinL K M s LL) (joinE K M s LL)) := by
  unfold joinL joinE
  by_cases hj : joinB K M s LL
  · rw [if_pos hj, if_pos hj]
    obtain ⟨⟨⟨c1, c2, c3, c4⟩, h1, h2⟩, h3, h4⟩ := hj
    obtain ⟨K, rfl⟩ := Int.eq_ofNat_of_zero_le (by omega : 0 ≤ K)
    obtain ⟨M, rfl⟩ := Int.eq_ofNat_of_zero_le (by omega : 0 ≤ M)
    obtain ⟨s, rfl⟩ := Int.eq_ofNat_of_zero_le (by omega : 0 ≤ s)
    have hj : joinB (K : Int) M s LL := ⟨⟨⟨c1, c2, c3, c4⟩, h1, h2⟩, h3, h4⟩
    obtain ⟨vs, hA, hT⟩ := hS
    subst hN
    have hSh := joinB_shards hA hT hj
    by_cases hp : (presL LL LL.length).length < K
    · rw [if_pos (by omega), if_pos (by omega)]
      exact (join_few hSh (by omega) (by omega) (by omega) (by omega) hp).mono fun e w' h => h.by'
    · rw [if_neg (by omega), if_neg (by omega)]
      refine (join_gen hSh (by omega) (by omega) (by omega) (by omega) (by omega) hF).mono fun e w' ⟨A, he, hA, hb⟩ => ?_
      exact ⟨A, s, by rw [he, Int.toNat_natCast, Int.toNat_natCast, joinL_len (M := M) (by omega)], hA, hb⟩
  · rw [if_neg hj, if_neg hj]
    exact (join_bad hS hN hmax hj).mono fun e w' h => h.by'
theorem rjoin_x {w : World} {K M s : Int} {N cS : Nat} {S : Option Addr} {LL : List (List B8)} (hS : LAt w S LL) (hN : N = LL.length) :
    Calls Tryd.prog 58 #[.agg #[.int .i64 K, .int .i64 M], .int .i64 s, .slice S N cS] w (RetBy w (joinL K M s LL) (joinE K M s LL)) := by
  unfold joinL joinE
  by_cases hj : joinB K M s LL
  · rw [if_pos hj, if_pos hj]
    obtain ⟨⟨⟨c1, c2, c3, c4⟩, h1, h2⟩, h3, h4⟩ := hj
    obtain ⟨K, rfl⟩ := Int.eq_ofNat_of_zero_le (by omega : 0 ≤ K)
    obtain ⟨M, rfl⟩ := Int.eq_ofNat_of_zero_le (by omega : 0 ≤ M)
    obtain ⟨s, rfl⟩ := Int.eq_ofNat_of_zero_le (by omega : 0 ≤ s)
    have hj : joinB (K : Int) M s LL := ⟨⟨⟨c1, c2, c3, c4⟩, h1, h2⟩, h3, h4⟩
    obtain ⟨vs, hA, hT⟩ := hS
    subst hN
    have hSh := joinB_shards hA hT hj
    by_cases hp : (presL LL LL.length).length < K
    · rw [if_pos (by omega), if_pos (by omega)]
      exact (rjoin_few hSh hj hp).mono fun e w' h => h.by'
    · rw [if_neg (by omega), if_neg (by omega)]
      exact (rjoin_gen hSh hj (by omega))
  · rw [if_neg hj, if_neg hj]
    exact (rjoin_bad hS hN hj).mono fun e w' h => h.by'

end Go.Proofs.YtibidlgikecelaaDoor
