/- Contract of the law FrameCmds itself. -/
import Derived.Test.YtfcacplecapgfaaE20
import Derived.Test.YtfcacplecapgfaaF4
namespace Go.Proofs.Ytfcacplecapgfaa
open Go.RowKit
set_option linter.unusedVariables false
set_option linter.unusedSimpArgs false

set_option maxHeartbeats 4000000 in
set_option maxRecDepth 100000 in
theorem frameCmds_calls {w : World} {c : Cm} {ns : List Int} {A B : Option Addr} {n d d' : Nat} {l : List B8} (hA : At w A (ints ns)) (hn : n = ns.length) (hmax : ns.length * 8 ≤ 140737488351232) (hsum : 0 ≤ c.sum ∧ c.sum < 4294967296) (hB : SlB w B d' l) :
    Calls Try.prog 3 #[.agg #[.int .i64 c.id, .int .i64 c.kind, .string c.key, .int .i64 c.blob, .int .i64 c.other, .int .i64 c.index, .int .i64 c.node, .int .i64 c.size, .int .u32 c.sum, .int .i64 c.k, .int .i64 c.m, .slice A n d], .slice B l.length d'] w (RetV w (.bool true)) := by
  have C1 : ∀ w : World, At w A (ints ns) → Calls Try.prog 7 #[.agg #[.int .i64 c.id, .int .i64 c.kind, .string c.key, .int .i64 c.blob, .int .i64 c.other, .int .i64 c.index, .int .i64 c.node, .int .i64 c.size, .int .u32 c.sum, .int .i64 c.k, .int .i64 c.m, .slice A n d]] w (RetBy w (encC c ns) (encCE c ns)) := fun w h => fcmd_calls c h hn (by omega) hsum
  have C2 : ∀ w : World, At w A (ints ns) → Calls Try.prog 8 #[.agg #[.int .i64 c.id, .int .i64 c.kind, .string c.key, .int .i64 c.blob, .int .i64 c.other, .int .i64 c.index, .int .i64 c.node, .int .i64 c.size, .int .u32 c.sum, .int .i64 c.k, .int .i64 c.m, .slice A n d]] w (RetBy w (encC c ns) (encCE c ns)) := fun w h => rcmd_calls c h hn (by omega) hsum
  generalize encC c ns = xs at C1 C2
  generalize encCE c ns = k1 at C1 C2
  have C3 : ∀ w : World, SlB w B d' l → Calls Try.prog 9 #[.slice B l.length d'] w (RetC w (oneC l)) := fun w h => readCmd_calls h
  have C4 : ∀ w : World, SlB w B d' l → Calls Try.prog 10 #[.slice B l.length d'] w (RetC w (oneC l)) := fun w h => rreadCmd_calls h
  unfold RetC at C3 C4
  generalize valC (oneC l) = x at C3 C4
  generalize errC (oneC l) = k2 at C3 C4
  obtain ⟨cx, nx⟩ := x
  simp only at C3 C4
  have HC1 := Lib.hid C1
  have HC2 := Lib.hid C2
  have HC3 := Lib.hid C3
  have HC4 := Lib.hid C4
  clear C1 C2 C3 C4
  obtain ⟨wb, hwb, hBb, hrb, hzb⟩ := cmd_box w c (.slice A n d)
  have e := cells_of hrb
  obtain ⟨e0, e1, e2, e3, e4, e5, e6, e7, e8, e9, e10, e11⟩ := e
  have HW := Lib.hid hwb
  rw [hwb] at e0 e1 e2 e3 e4 e5 e6 e7 e8 e9 e10 e11
  have HA := Lib.hid (hA.below hBb)
  have HB := Lib.hid (hB.below hBb)
  have HR := Lib.hid hrb
  clear hwb hA hB hn hmax hsum hrb
  go_enter Try.func3, Try.ntmps3
  go_wp2_with fail
  have hwb := HW.out
  rw [← hwb]
  clear hwb HW e0 e1 e2 e3 e4 e5 e6 e7 e8 e9 e10 e11
  refine (HC1.out _ HA.out).mono ?_
  rintro e w1 ⟨X1, q1, rfl, hx1, hb1⟩
  have HA1 := Lib.hid (HA.out.below hb1)
  have HB1 := Lib.hid (HB.out.below hb1)
  have hr1 := (hb1.block w.heap.size (by omega)).trans HR.out
  have e := cells_of hr1
  obtain ⟨e0, e1, e2, e3, e4, e5, e6, e7, e8, e9, e10, e11⟩ := e
  have hz1 := hb1.size
  have hB1 := hBb.trans (hb1.mono (by omega))
  clear hr1 hb1 HA HB HR
  go_wp2_with fail
  clear e0 e1 e2 e3 e4 e5 e6 e7 e8 e9 e10 e11
  refine (HC2.out _ HA1.out).mono ?_
  rintro e w2 ⟨X2, q2, rfl, hx2, hb2⟩
  have HX2 := Lib.hid (And.intro (hx1.below hb2) hx2)
  have HB2 := Lib.hid (HB1.out.below hb2)
  have hz2 := hb2.size
  have hB2 := hB1.trans (hb2.mono (by omega))
  clear hb2 hx1 hx2 HA1 HB1 HC1 HC2
  go_wp2_with fail
  refine (HC3.out _ HB2.out).mono ?_
  rintro e w3 ⟨P3, q3, rfl, hb3, ho3, hn3⟩
  have HX3 := Lib.hid (And.intro (HX2.out.1.below hb3) (HX2.out.2.below hb3))
  have HB3 := Lib.hid (HB2.out.below hb3)
  have hz3 := hb3.size
  have hB3 := hB2.trans (hb3.mono (by omega))
  have hb4 := below1' w3 (.cells #[.int .i64 cx.id, .int .i64 cx.kind, .string cx.key, .int .i64 cx.blob, .int .i64 cx.other, .int .i64 cx.index, .int .i64 cx.node, .int .i64 cx.size, .int .u32 cx.sum, .int .i64 cx.k, .int .i64 cx.m, .slice P3 nx.length q3] 27)
  have hg4 : (w3.alloc (.cells #[.int .i64 cx.id, .int .i64 cx.kind, .string cx.key, .int .i64 cx.blob, .int .i64 cx.other, .int .i64 cx.index, .int .i64 cx.node, .int .i64 cx.size, .int .u32 cx.sum, .int .i64 cx.k, .int .i64 cx.m, .slice P3 nx.length q3] 27)).heap[w3.heap.size]? = some (.cells #[.int .i64 cx.id, .int .i64 cx.kind, .string cx.key, .int .i64 cx.blob, .int .i64 cx.other, .int .i64 cx.index, .int .i64 cx.node, .int .i64 cx.size, .int .u32 cx.sum, .int .i64 cx.k, .int .i64 cx.m, .slice P3 nx.length q3] 27 (0, 0)) := heap_alloc_new w3 _
  have hs4 : (w3.alloc (.cells #[.int .i64 cx.id, .int .i64 cx.kind, .string cx.key, .int .i64 cx.blob, .int .i64 cx.other, .int .i64 cx.index, .int .i64 cx.node, .int .i64 cx.size, .int .u32 cx.sum, .int .i64 cx.k, .int .i64 cx.m, .slice P3 nx.length q3] 27)).heap.size = w3.heap.size + 1 := by simp
  have ho4 := own_below ho3 hb4
  have HX4 := Lib.hid (And.intro (HX3.out.1.below hb4) (HX3.out.2.below hb4))
  have HB4 := Lib.hid (HB3.out.below hb4)
  have hB4 := hB3.trans (hb4.mono (by omega))
  unfold cmv
  clear hb3 hb4 ho3 HX2 HX3 HB2 HB3 HC3
  go_wp2_with fail
  generalize w3.alloc (.cells #[.int .i64 cx.id, .int .i64 cx.kind, .string cx.key, .int .i64 cx.blob, .int .i64 cx.other, .int .i64 cx.index, .int .i64 cx.node, .int .i64 cx.size, .int .u32 cx.sum, .int .i64 cx.k, .int .i64 cx.m, .slice P3 nx.length q3] 27) = w4 at *
  refine (HC4.out _ HB4.out).mono ?_
  rintro e w5 ⟨P5, q5, rfl, hb5, ho5, hn5⟩
  have HX5 := Lib.hid (And.intro (HX4.out.1.below hb5) (HX4.out.2.below hb5))
  have hz5 := hb5.size
  have hB5 := hB4.trans (hb5.mono (by omega))
  have hg5 := (hb5.block w3.heap.size (by omega)).trans hg4
  have ho45 := own_below ho4 hb5
  have hb6 := below1' w5 (.cells #[.int .i64 cx.id, .int .i64 cx.kind, .string cx.key, .int .i64 cx.blob, .int .i64 cx.other, .int .i64 cx.index, .int .i64 cx.node, .int .i64 cx.size, .int .u32 cx.sum, .int .i64 cx.k, .int .i64 cx.m, .slice P5 nx.length q5] 27)
  have hg6 : (w5.alloc (.cells #[.int .i64 cx.id, .int .i64 cx.kind, .string cx.key, .int .i64 cx.blob, .int .i64 cx.other, .int .i64 cx.index, .int .i64 cx.node, .int .i64 cx.size, .int .u32 cx.sum, .int .i64 cx.k, .int .i64 cx.m, .slice P5 nx.length q5] 27)).heap[w5.heap.size]? = some (.cells #[.int .i64 cx.id, .int .i64 cx.kind, .string cx.key, .int .i64 cx.blob, .int .i64 cx.other, .int .i64 cx.index, .int .i64 cx.node, .int .i64 cx.size, .int .u32 cx.sum, .int .i64 cx.k, .int .i64 cx.m, .slice P5 nx.length q5] 27 (0, 0)) := heap_alloc_new w5 _
  have hg56 := (hb6.block w3.heap.size (by omega)).trans hg5
  have ho6 := own_at (own_below ho45 hb6)
  have ho7 := own_at (own_below ho5 hb6)
  have HX6 := Lib.hid (And.intro (HX5.out.1.below hb6) (HX5.out.2.below hb6))
  have hB6 := hB5.trans (hb6.mono (by omega))
  have e := cells_of hg6
  obtain ⟨e0, e1, e2, e3, e4, e5, e6, e7, e8, e9, e10, e11⟩ := e
  have z := cells_of hg56
  obtain ⟨z0, z1, z2, z3, z4, z5, z6, z7, z8, z9, z10, z11⟩ := z
  unfold cmv
  clear hb5 hb6 ho45 ho4 ho5 HX4 HX5 HB4 HC4 hg4 hg5
  go_wp2_with fail
  generalize w5.alloc (.cells #[.int .i64 cx.id, .int .i64 cx.kind, .string cx.key, .int .i64 cx.blob, .int .i64 cx.other, .int .i64 cx.index, .int .i64 cx.node, .int .i64 cx.size, .int .u32 cx.sum, .int .i64 cx.k, .int .i64 cx.m, .slice P5 nx.length q5] 27) = w6 at *
  refine (equal_calls HX6.out.1 HX6.out.2 rfl rfl).mono ?_
  rintro e w7 ⟨he, rfl⟩
  replace he : e = .returned (.bool true) := he.trans (by simp)
  subst he
  clear HX6
  have HS := Lib.hid (psame_calls (w := w6) (c := cx) (a := q3) (b := q5) ho6 ho7 rfl (by omega))
  go_wp2_with fail
  refine HS.out.mono ?_
  rintro e w8 ⟨rfl, hb8⟩
  have hB8 := hB6.trans (hb8.mono hB6.size)
  clear e0 e1 e2 e3 e4 e5 e6 e7 e8 e9 e10 e11 z0 z1 z2 z3 z4 z5 z6 z7 z8 z9 z10 z11 hg6 hg56 hb8 HS ho6 ho7
  go_wp2_with fail
  refine (frameWraps_calls (l := []) (At.nil _ _) rfl (fun _ => rfl) (by decide)).mono ?_
  rintro e w9 ⟨rfl, hb9⟩
  go_wp2_with fail
  go_ret
  exact ⟨ret_bool rfl, hB8.trans (hb9.mono hB8.size)⟩
end Go.Proofs.Ytfcacplecapgfaa
