/- Contract: amphoraref05.ReadCmd. -/
import Derived.Test.YtfcacplecapgfaaE16
namespace Go.Proofs.Ytfcacplecapgfaa
open Go.RowKit
set_option linter.unusedVariables false
set_option linter.unusedSimpArgs false

/-- Bytes that lie below. -/
structure SlB (w : World) (A : Option Addr) (d : Nat) (l : List B8) : Prop where
  at' : At w A (bys l)
  far : ∀ a, A = some a → a.spot = none ∧ a.block < w.heap.size
  nil : A = none → d = 0
  len : l.length ≤ d
theorem SlB.below {w w' : World} {A : Option Addr} {d : Nat} {l : List B8} (h : SlB w A d l) (hb : Below w.heap.size w w') : SlB w' A d l :=
  ⟨h.at'.below hb, fun a ha => ⟨(h.far a ha).1, Nat.lt_of_lt_of_le (h.far a ha).2 hb.size⟩, h.nil, h.len⟩
/-- The one command that bytes are. -/
def oneC (l : List B8) : Option (Cm × List Int) := match readC l with | some (x, []) => some x | _ => none
def valC (o : Option (Cm × List Int)) : Cm × List Int := o.getD (zeroC, [])
def errC (o : Option (Cm × List Int)) : Int := if o.isSome = true then 0 else 51
/-- A command and an error are answered. -/
def RetC (w : World) (o : Option (Cm × List Int)) (e : Ending) (w' : World) : Prop :=
  ∃ P e', e = .returned (.tuple #[cmv (valC o).1 (.slice P (valC o).2.length e'), .int .i64 (errC o)]) ∧ Below w.heap.size w w' ∧
    w'.ownsRow w.heap.size 3 1 (.slice P (valC o).2.length e') (valC o).2.length (ints (valC o).2) ∧ (valC o).2.length ≤ 255

theorem results_row_tmp {P : Program} {fn : Func} {p q : Tmp} {ty : TypeId} (h : fn.results = #[.cell p ty, .tmp q]) (tmps : Array Value) (w : World) (g : Nat) (t : TypeId) (cs : Array Value) (fr : Nat × Nat) (d : TypeDesc)
    (hp : tmps.getD p undef = .pointer (some ⟨g, 0, none⟩)) (hg : w.heap[g]? = some (.cells cs t fr))
    (hu : P.underlying ty = some d) (hd : (match d with | .struct _ | .array _ _ => true | _ => false) = true) (hi : (P.info? ty).map (·.size) = some cs.size) :
    (results fn tmps).run P w = .ok (.tuple #[.agg cs, tmps.getD q undef]) w := by
  have hp' : tmps[p]?.getD undef = .pointer (some ⟨g, 0, none⟩) := by simpa using hp
  simp [results, h, hp', asAddr, run_loadVar_row w g t ty cs fr d hg hu hd hi]

theorem rd_boxes (w : World) {A : Option Addr} {d : Nat} {l : List B8} (h : SlB w A d l) : ∃ w3, w3 = (w.alloc (.cells #[.int .i64 0, .int .i64 0, .string ⟨#[]⟩, .int .i64 0, .int .i64 0, .int .i64 0, .int .i64 0, .int .i64 0, .int .u32 0, .int .i64 0, .int .i64 0, .slice none 0 0] 27)).alloc (.cells #[.slice A l.length d, .bool false] 64) ∧
    Below w.heap.size w w3 ∧ w3.heap[w.heap.size]? = some (.cells #[.int .i64 0, .int .i64 0, .string ⟨#[]⟩, .int .i64 0, .int .i64 0, .int .i64 0, .int .i64 0, .int .i64 0, .int .u32 0, .int .i64 0, .int .i64 0, .slice none 0 0] 27 (0, 0)) ∧
    RdS w3 (w.heap.size + 1) (some l) ∧ w3.heap.size = w.heap.size + 2 := by
  refine ⟨_, rfl, ?_⟩
  have hb1 := below1' w (.cells #[.int .i64 0, .int .i64 0, .string ⟨#[]⟩, .int .i64 0, .int .i64 0, .int .i64 0, .int .i64 0, .int .i64 0, .int .u32 0, .int .i64 0, .int .i64 0, .slice none 0 0] 27)
  have h1 : (w.alloc (.cells #[.int .i64 0, .int .i64 0, .string ⟨#[]⟩, .int .i64 0, .int .i64 0, .int .i64 0, .int .i64 0, .int .i64 0, .int .u32 0, .int .i64 0, .int .i64 0, .slice none 0 0] 27)).heap[w.heap.size]? = some (.cells #[.int .i64 0, .int .i64 0, .string ⟨#[]⟩, .int .i64 0, .int .i64 0, .int .i64 0, .int .i64 0, .int .i64 0, .int .u32 0, .int .i64 0, .int .i64 0, .slice none 0 0] 27 (0, 0)) := heap_alloc_new w _
  have hs1 : (w.alloc (.cells #[.int .i64 0, .int .i64 0, .string ⟨#[]⟩, .int .i64 0, .int .i64 0, .int .i64 0, .int .i64 0, .int .i64 0, .int .u32 0, .int .i64 0, .int .i64 0, .slice none 0 0] 27)).heap.size = w.heap.size + 1 := by simp
  generalize w.alloc (.cells #[.int .i64 0, .int .i64 0, .string ⟨#[]⟩, .int .i64 0, .int .i64 0, .int .i64 0, .int .i64 0, .int .i64 0, .int .u32 0, .int .i64 0, .int .i64 0, .slice none 0 0] 27) = wa at *
  have hb2 := below1' wa (.cells #[.slice A l.length d, .bool false] 64)
  have h2 : (wa.alloc (.cells #[.slice A l.length d, .bool false] 64)).heap[wa.heap.size]? = some (.cells #[.slice A l.length d, .bool false] 64 (0, 0)) := heap_alloc_new wa _
  have hs2 : (wa.alloc (.cells #[.slice A l.length d, .bool false] 64)).heap.size = w.heap.size + 1 + 1 := by simp; omega
  rw [hs1] at h2
  have h12 := (hb2.block w.heap.size (by omega)).trans h1
  have hB := hb1.trans (hb2.mono (by omega))
  refine ⟨hB, h12, ⟨A, d, h2, h.at'.below hB, fun b off he => ?_, h.len, h.nil, fun a ha => (h.far a ha).1⟩, hs2⟩
  have := (h.far _ he).2
  simp only at this
  omega

set_option maxHeartbeats 4000000 in
set_option maxRecDepth 100000 in
theorem rreadCmd_calls {w : World} {A : Option Addr} {d : Nat} {l : List B8} (h : SlB w A d l) :
    Calls Try.prog 10 #[.slice A l.length d] w (RetC w (oneC l)) := by
  obtain ⟨w3, hw3, hB3, hr3, hS3, hz3⟩ := rd_boxes w h
  have HW3 := Lib.hid hw3
  have HN1 := Lib.hid (rcmdS_calls hS3)
  have HH := Lib.hid h
  have HS3 := Lib.hid hS3
  clear hw3 h hS3
  go_enter Try.func10, Try.ntmps10
  go_wp2_with fail
  have hw3 := HW3.out
  rw [← hw3]
  clear hw3 HW3
  refine HN1.out.mono ?_
  rintro e w4 ⟨c, ns, P, e', st, rfl, hS4, hgr, hown, hst, hns, _⟩
  have hr4 := (hgr.block w.heap.size (by omega) (by intro he; injection he with he; omega)).trans hr3
  have hB4 : Below w.heap.size w w4 := ⟨hgr.os.trans hB3.os, hgr.tape.trans hB3.tape, hgr.output.trans hB3.output, Nat.le_trans hB3.size hgr.size, fun k hk => (hgr.block k (by omega) (by intro he; injection he with he; omega)).trans (hB3.block k hk)⟩
  have hz4 := hgr.size
  clear hgr hr3 HN1
  unfold cmv
  have hb5 := below1' w4 (.cells #[.int .i64 c.id, .int .i64 c.kind, .string c.key, .int .i64 c.blob, .int .i64 c.other, .int .i64 c.index, .int .i64 c.node, .int .i64 c.size, .int .u32 c.sum, .int .i64 c.k, .int .i64 c.m, .slice P ns.length e'] 27)
  have hg5 : (w4.alloc (.cells #[.int .i64 c.id, .int .i64 c.kind, .string c.key, .int .i64 c.blob, .int .i64 c.other, .int .i64 c.index, .int .i64 c.node, .int .i64 c.size, .int .u32 c.sum, .int .i64 c.k, .int .i64 c.m, .slice P ns.length e'] 27)).heap[w4.heap.size]? = some (.cells #[.int .i64 c.id, .int .i64 c.kind, .string c.key, .int .i64 c.blob, .int .i64 c.other, .int .i64 c.index, .int .i64 c.node, .int .i64 c.size, .int .u32 c.sum, .int .i64 c.k, .int .i64 c.m, .slice P ns.length e'] 27 (0, 0)) := heap_alloc_new w4 _
  have hr5 := (hb5.block w.heap.size (by omega)).trans hr4
  have hS5 := hS4.belowB hb5 (by omega)
  have hown5 := own_below hown hb5
  have hB5 := hB4.trans (hb5.mono (by omega))
  have hz5 : (w4.alloc (.cells #[.int .i64 c.id, .int .i64 c.kind, .string c.key, .int .i64 c.blob, .int .i64 c.other, .int .i64 c.index, .int .i64 c.node, .int .i64 c.size, .int .u32 c.sum, .int .i64 c.k, .int .i64 c.m, .slice P ns.length e'] 27)).heap.size = w4.heap.size + 1 := by simp
  have hsp := hst.split
  clear hst
  cases st with
  | none =>
    have hon : Hid (oneC l = none) := by
      show oneC l = none
      rcases hsp with ⟨h1, _⟩ | ⟨_, _, _, _, h1⟩
      · rw [Option.bind_some] at h1
        unfold oneC; rw [h1]
      · cases h1
    clear hsp
    obtain ⟨hfc, hff⟩ := hS5.flag
    simp only [Option.isNone_none] at hfc
    have z := cells_of (c := zeroC) (v := .slice none 0 0) hr5
    simp only [zeroC] at z
    obtain ⟨z0, z1, z2, z3, z4, z5, z6, z7, z8, z9, z10, z11⟩ := z
    have hfz := fun o => frozen_of_row _ w.heap.size o _ _ hr5
    have HR5 := Lib.hid hr5
    have HG5 := Lib.hid hg5
    clear hr5 hg5 hS5 hS4 hr4
    have HB5 := Lib.hid hB5
    have HO5 := Lib.hid hown5
    clear hB5 hown5
    go_wp2_with fail
    have hrow := putAll_full (vs := #[.int .i64 0, .int .i64 0, .string ⟨#[]⟩, .int .i64 0, .int .i64 0, .int .i64 0, .int .i64 0, .int .i64 0, .int .u32 0, .int .i64 0, .int .i64 0, .slice none 0 0].toList) HR5.out rfl
    have hbF := putAll_below (Nat.le_refl _) #[.int .i64 0, .int .i64 0, .string ⟨#[]⟩, .int .i64 0, .int .i64 0, .int .i64 0, .int .i64 0, .int .i64 0, .int .u32 0, .int .i64 0, .int .i64 0, .slice none 0 0].toList (w4.alloc (.cells #[.int .i64 c.id, .int .i64 c.kind, .string c.key, .int .i64 c.blob, .int .i64 c.other, .int .i64 c.index, .int .i64 c.node, .int .i64 c.size, .int .u32 c.sum, .int .i64 c.k, .int .i64 c.m, .slice P ns.length e'] 27)) 0 (Below.refl w.heap.size (w4.alloc (.cells #[.int .i64 c.id, .int .i64 c.kind, .string c.key, .int .i64 c.blob, .int .i64 c.other, .int .i64 c.index, .int .i64 c.node, .int .i64 c.size, .int .u32 c.sum, .int .i64 c.k, .int .i64 c.m, .slice P ns.length e'] 27)))
    refine bodyPost_ret (results_row_tmp rfl _ _ w.heap.size 27 #[.int .i64 0, .int .i64 0, .string ⟨#[]⟩, .int .i64 0, .int .i64 0, .int .i64 0, .int .i64 0, .int .i64 0, .int .u32 0, .int .i64 0, .int .i64 0, .slice none 0 0] (0, 0) _ rfl hrow Try.underlying27 rfl (by kernel_rfl)) rfl ?_
    exact ⟨none, 0, by rw [hon.out]; rfl, HB5.out.trans hbF, by rw [hon.out]; exact World.ownsRow_nil _ _ _ _, by rw [hon.out]; decide⟩

  | some r =>
    have hre : readC l = some ((c, ns), r) := by
      rcases hsp with ⟨_, h1⟩ | ⟨l', r', h1, h2, h3⟩
      · cases h1
      · injection h1 with h1
        injection h3 with h3
        rw [h1, h3, h2]
    clear hsp
    obtain ⟨hfc, hff⟩ := hS5.flag
    simp only [Option.isNone_some] at hfc
    obtain ⟨A5, c5, hR5⟩ := hS5
    have hb0 := cell_of_row _ _ 0 _ _ (0, 0) hR5.hd
    simp only [List.getElem?_toArray, List.getElem?_cons_succ, List.getElem?_cons_zero] at hb0
    clear hR5
    cases r with
    | cons y r =>
      have hon : Hid (oneC l = none) := by
        show oneC l = none
        unfold oneC; rw [hre]
      clear hre
      simp only [List.length_cons] at hb0
      have hpos : (0 : Int) < ((r.length + 1 : Nat) : Int) := by omega
      have z := cells_of (c := zeroC) (v := .slice none 0 0) hr5
      simp only [zeroC] at z
      obtain ⟨z0, z1, z2, z3, z4, z5, z6, z7, z8, z9, z10, z11⟩ := z
      have hfz := fun o => frozen_of_row _ w.heap.size o _ _ hr5
      have HR5 := Lib.hid hr5
      have HG5 := Lib.hid hg5
      clear hr5 hg5 hS4 hr4
      have HB5 := Lib.hid hB5
      have HO5 := Lib.hid hown5
      clear hB5 hown5
      go_wp2_with fail
      have hrow := putAll_full (vs := #[.int .i64 0, .int .i64 0, .string ⟨#[]⟩, .int .i64 0, .int .i64 0, .int .i64 0, .int .i64 0, .int .i64 0, .int .u32 0, .int .i64 0, .int .i64 0, .slice none 0 0].toList) HR5.out rfl
      have hbF := putAll_below (Nat.le_refl _) #[.int .i64 0, .int .i64 0, .string ⟨#[]⟩, .int .i64 0, .int .i64 0, .int .i64 0, .int .i64 0, .int .i64 0, .int .u32 0, .int .i64 0, .int .i64 0, .slice none 0 0].toList (w4.alloc (.cells #[.int .i64 c.id, .int .i64 c.kind, .string c.key, .int .i64 c.blob, .int .i64 c.other, .int .i64 c.index, .int .i64 c.node, .int .i64 c.size, .int .u32 c.sum, .int .i64 c.k, .int .i64 c.m, .slice P ns.length e'] 27)) 0 (Below.refl w.heap.size (w4.alloc (.cells #[.int .i64 c.id, .int .i64 c.kind, .string c.key, .int .i64 c.blob, .int .i64 c.other, .int .i64 c.index, .int .i64 c.node, .int .i64 c.size, .int .u32 c.sum, .int .i64 c.k, .int .i64 c.m, .slice P ns.length e'] 27)))
      refine bodyPost_ret (results_row_tmp rfl _ _ w.heap.size 27 #[.int .i64 0, .int .i64 0, .string ⟨#[]⟩, .int .i64 0, .int .i64 0, .int .i64 0, .int .i64 0, .int .i64 0, .int .u32 0, .int .i64 0, .int .i64 0, .slice none 0 0] (0, 0) _ rfl hrow Try.underlying27 rfl (by kernel_rfl)) rfl ?_
      exact ⟨none, 0, by rw [hon.out]; rfl, HB5.out.trans hbF, by rw [hon.out]; exact World.ownsRow_nil _ _ _ _, by rw [hon.out]; decide⟩

    | nil =>
      have hon : Hid (oneC l = some (c, ns)) := by
        show oneC l = some (c, ns)
        unfold oneC; rw [hre]
      clear hre
      simp only [List.length_nil] at hb0
      have e := cells_of hg5
      obtain ⟨e0, e1, e2, e3, e4, e5, e6, e7, e8, e9, e10, e11⟩ := e
      have z := cells_of (c := zeroC) (v := .slice none 0 0) hr5
      simp only [zeroC] at z
      obtain ⟨z0, z1, z2, z3, z4, z5, z6, z7, z8, z9, z10, z11⟩ := z
      have hfz := fun o => frozen_of_row _ w.heap.size o _ _ hr5
      have HR5 := Lib.hid hr5
      have HG5 := Lib.hid hg5
      clear hr5 hg5 hS4 hr4
      have HB5 := Lib.hid hB5
      have HO5 := Lib.hid hown5
      clear hB5 hown5
      go_wp2_with fail
      have hrow := putAll_full (vs := #[.int .i64 c.id, .int .i64 c.kind, .string c.key, .int .i64 c.blob, .int .i64 c.other, .int .i64 c.index, .int .i64 c.node, .int .i64 c.size, .int .u32 c.sum, .int .i64 c.k, .int .i64 c.m, .slice P ns.length e'].toList) HR5.out rfl
      have hbF := putAll_below (Nat.le_refl _) #[.int .i64 c.id, .int .i64 c.kind, .string c.key, .int .i64 c.blob, .int .i64 c.other, .int .i64 c.index, .int .i64 c.node, .int .i64 c.size, .int .u32 c.sum, .int .i64 c.k, .int .i64 c.m, .slice P ns.length e'].toList (w4.alloc (.cells #[.int .i64 c.id, .int .i64 c.kind, .string c.key, .int .i64 c.blob, .int .i64 c.other, .int .i64 c.index, .int .i64 c.node, .int .i64 c.size, .int .u32 c.sum, .int .i64 c.k, .int .i64 c.m, .slice P ns.length e'] 27)) 0 (Below.refl w.heap.size (w4.alloc (.cells #[.int .i64 c.id, .int .i64 c.kind, .string c.key, .int .i64 c.blob, .int .i64 c.other, .int .i64 c.index, .int .i64 c.node, .int .i64 c.size, .int .u32 c.sum, .int .i64 c.k, .int .i64 c.m, .slice P ns.length e'] 27)))
      have hoF := putAll_owns (g := w.heap.size) (by omega) #[.int .i64 c.id, .int .i64 c.kind, .string c.key, .int .i64 c.blob, .int .i64 c.other, .int .i64 c.index, .int .i64 c.node, .int .i64 c.size, .int .u32 c.sum, .int .i64 c.k, .int .i64 c.m, .slice P ns.length e'].toList (w4.alloc (.cells #[.int .i64 c.id, .int .i64 c.kind, .string c.key, .int .i64 c.blob, .int .i64 c.other, .int .i64 c.index, .int .i64 c.node, .int .i64 c.size, .int .u32 c.sum, .int .i64 c.k, .int .i64 c.m, .slice P ns.length e'] 27)) 0 HO5.out
      refine bodyPost_ret (results_row_tmp rfl _ _ w.heap.size 27 #[.int .i64 c.id, .int .i64 c.kind, .string c.key, .int .i64 c.blob, .int .i64 c.other, .int .i64 c.index, .int .i64 c.node, .int .i64 c.size, .int .u32 c.sum, .int .i64 c.k, .int .i64 c.m, .slice P ns.length e'] (0, 0) _ rfl hrow Try.underlying27 rfl (by kernel_rfl)) rfl ?_
      exact ⟨P, e', by rw [hon.out]; rfl, HB5.out.trans hbF, by rw [hon.out]; exact own_lower hoF (by omega), by rw [hon.out]; exact hns⟩

end Go.Proofs.Ytfcacplecapgfaa
