/- Steps of the walk at this seat's numbers: texts of bytes. -/
import Derived.Test.YtfcacplecapgfaaV
import Derived.Test.YtfcacplecapgfaaChecked
import Derived.Lib.SliceRun
namespace Go.Proofs.Ytfcacplecapgfaa
open Go.RowKit
set_option linter.unusedVariables false
set_option linter.unusedSimpArgs false

theorem u8info : (Try.prog.info? 5).map (fun i => (i.zero, i.size, i.bytes)) = some (some (.int .u8 0), 1, 1) := by kernel_rfl

/-- append(own, bytes...) -/
theorem wp_app_bytes {w : World} {o : Oper} {a : Act} {K : Act → World → Prop} {Q : Exit → Act → World → Prop}
    (s x : Operand) (hop : o.op = Op.call { callee := Callee.builtin Builtin.append, args := #[s, x], argTypes := #[28, 28] })
    (base : Nat) {v : Value} {n : Nat} {xs : List B8} (hs : a.eval s = v) (hown : w.ownsRow base 5 1 v n (bys xs))
    {A : Option Addr} {m c : Nat} (hx : a.eval x = .slice A m c) {news : List B8} (hl : news.length = m) (hA : At w A (bys news))
    (hnil : A = none → c = 0) (hbytes : n + m ≤ 140737488355328) (hbase : base ≤ w.heap.size)
    (hK : ∀ A' c' w', w'.ownsRow base 5 1 (.slice A' (n + m) c') (n + m) (bys (xs ++ news)) → Below base w w' → w.grownBy w' v.ownBlock ∧ ((Value.slice A' (n + m) c').ownBlock = v.ownBlock ∨ (Value.slice A' (n + m) c').ownBlock = some w.heap.size) → n + m ≤ c' →
      K (a.put o.dst (.slice A' (n + m) c')) w') :
    o.wp Try.prog a w K Q := by
  obtain ⟨i, hi, hz0, hz1, hz2⟩ := info_parts u8info
  refine wp_app w s x 28 hop base 5 i (.int .u8 0) 1 1 Try.underlying28 hi hz0 hz1 hz2 rfl (by decide) v n (bys xs) hs hown A m c hx (bys news) (by simpa using hl) hA (bys_one _) hnil
    (by unfold maxLen; omega) (by omega) hbase ?_
  intro A' c' w' h1 h2 h3 h4
  rw [← bys_append] at h1
  exact hK A' c' w' h1 h2 h3 h4
theorem app_bytes {w : World} {ops : Array Oper} {rest : List Oper} {o : Oper} {a : Act} {Q : Exit → Act → World → Prop}
    (hg : o.guard = none) (s x : Operand) (hop : o.op = Op.call { callee := Callee.builtin Builtin.append, args := #[s, x], argTypes := #[28, 28] })
    (base : Nat) {v : Value} {n : Nat} {xs : List B8} (hs : a.eval s = v) (hown : w.ownsRow base 5 1 v n (bys xs))
    {A : Option Addr} {m c : Nat} (hx : a.eval x = .slice A m c) {news : List B8} (hl : news.length = m) (hA : At w A (bys news))
    (hnil : A = none → c = 0) (hbytes : n + m ≤ 140737488355328) (hbase : base ≤ w.heap.size)
    (hK : ∀ A' c' w', w'.ownsRow base 5 1 (.slice A' (n + m) c') (n + m) (bys (xs ++ news)) → Below base w w' → w.grownBy w' v.ownBlock ∧ ((Value.slice A' (n + m) c').ownBlock = v.ownBlock ∨ (Value.slice A' (n + m) c').ownBlock = some w.heap.size) → n + m ≤ c' →
      wpList Try.prog ops Q rest (a.put o.dst (.slice A' (n + m) c')) w') :
    wpList Try.prog ops Q (o :: rest) a w :=
  wpList_plain hg fun _ hK' => wp_app_bytes s x hop base hs hown hx hl hA hnil hbytes hbase fun A' c' w' h1 h2 h3 h4 => hK' _ _ (hK A' c' w' h1 h2 h3 h4)
/-- The same at a step of a region that draws its order. -/
theorem step_app_bytes {w : World} {ops : Array Oper} {E : Prop} {o : Oper} {a : Act} {K : Act → World → Prop} {Q : Exit → Act → World → Prop}
    (hg : o.guard = none) (s x : Operand) (hop : o.op = Op.call { callee := Callee.builtin Builtin.append, args := #[s, x], argTypes := #[28, 28] })
    (base : Nat) {v : Value} {n : Nat} {xs : List B8} (hs : a.eval s = v) (hown : w.ownsRow base 5 1 v n (bys xs))
    {A : Option Addr} {m c : Nat} (hx : a.eval x = .slice A m c) {news : List B8} (hl : news.length = m) (hA : At w A (bys news))
    (hnil : A = none → c = 0) (hbytes : n + m ≤ 140737488355328) (hbase : base ≤ w.heap.size)
    (hK : ∀ A' c' w', w'.ownsRow base 5 1 (.slice A' (n + m) c') (n + m) (bys (xs ++ news)) → Below base w w' → w.grownBy w' v.ownBlock ∧ ((Value.slice A' (n + m) c').ownBlock = v.ownBlock ∨ (Value.slice A' (n + m) c').ownBlock = some w.heap.size) → n + m ≤ c' →
      K (a.put o.dst (.slice A' (n + m) c')) w') :
    if Region.wanted o (yielded ops a.tmps) = true then o.wp Try.prog a w K Q else E := by
  rw [if_pos (by simp [Region.wanted, hg])]
  exact wp_app_bytes s x hop base hs hown hx hl hA hnil hbytes hbase hK

/-- b[l:h:m] of bytes -/
theorem cut_bytes {w : World} {ops : Array Oper} {rest : List Oper} {o : Oper} {a : Act} {Q : Exit → Act → World → Prop}
    (hg : o.guard = none) (x : Operand) (lo hi' mx : Option Operand) (hop : o.op = Op.slice 28 x lo hi' mx)
    {A : Option Addr} {n c : Nat} (hx : a.eval x = .slice A n c) (l h m : Nat)
    (hl : lo.map a.eval = none ∧ l = 0 ∨ lo.map a.eval = some (.int .i64 l)) (hh : hi'.map a.eval = none ∧ h = n ∧ mx.map a.eval = none ∨ hi'.map a.eval = some (.int .i64 h))
    (hm : mx.map a.eval = none ∧ m = c ∨ mx.map a.eval = some (.int .i64 m))
    (hlh : l ≤ h) (hhm : h ≤ m) (hmc : m ≤ c)
    (hK : ∀ A', A' = cutA A l m → wpList Try.prog ops Q rest (a.put o.dst (.slice A' (h - l) (m - l))) w) :
    wpList Try.prog ops Q (o :: rest) a w := by
  obtain ⟨i, hi, hz0, hz1, hz2⟩ := info_parts u8info
  exact wpList_cut w hg 28 5 x lo hi' mx hop i Try.underlying28 hi hz1 A n c hx l h m hl hh hm hlh hhm hmc hK

/-- A cut's own equation, for regions that draw their order. -/
theorem cut_eq {A A' : Option Addr} {n c n' c' : Nat} {lo hi' : Option Value} (l h : Nat) (hl : lo = none ∧ l = 0 ∨ lo = some (.int .i64 l)) (hh : hi' = none ∧ h = n ∨ hi' = some (.int .i64 h))
    (hlh : l ≤ h) (hhc : h ≤ c) (hA : cutA A l c = A') (hn : h - l = n') (hc : c - l = c') (w : World) :
    (Instr.sliceAt 28 (.slice A n c) lo hi' none).run Try.prog w = .ok (.slice A' n' c') w := by
  subst hA hn hc
  obtain ⟨i, hi, hz0, hz1, hz2⟩ := info_parts u8info
  refine run_cut (P := Try.prog) w 28 5 i Try.underlying28 hi hz1 A n c lo hi' none l h c hl ?_ (.inl ⟨rfl, rfl⟩) hlh hhc (Nat.le_refl _)
  rcases hh with ⟨h1, h2⟩ | h1
  · exact .inl ⟨h1, h2, rfl⟩
  · exact .inr h1
theorem cutA_some {b off l c : Nat} (h : c ≠ l) : cutA (some ⟨b, off, none⟩) l c = some ⟨b, off + l, none⟩ := by
  unfold cutA; rw [if_neg h]
  simp only [Option.map_some, Addr.add]
  split
  · rename_i h0; subst h0; rfl
  · rfl

/-- make([]byte, n) -/
theorem make_bytes {w : World} {ops : Array Oper} {rest : List Oper} {o : Oper} {a : Act} {Q : Exit → Act → World → Prop}
    (hg : o.guard = none) (l c : Operand) (hop : o.op = Op.makeSlice 28 l c) (base : Nat) {L C : Int} (n : Nat) (hl : a.eval l = .int .i64 L) (hc : a.eval c = .int .i64 C) (hL : L = (n : Int)) (hC : C = (n : Int))
    (b2 : n ≤ 140737488355328) (b4 : base ≤ w.heap.size)
    (hK : ∀ w' g, w'.ownsRow base 5 1 (.slice (some ⟨g, 0, none⟩) n n) n (bys (List.replicate n 0#8)) → Below w.heap.size w w' → w.heap.size ≤ g → g < w'.heap.size → wpList Try.prog ops Q rest (a.put o.dst (.slice (some ⟨g, 0, none⟩) n n)) w') :
    wpList Try.prog ops Q (o :: rest) a w := by
  obtain ⟨i, hi, hz0, hz1, hz2⟩ := info_parts u8info
  refine wpList_make_full w hg l c 28 hop w.heap.size 5 i (.int .u8 0) 1 Try.underlying28 hi hz0 hz1 .i64 .i64 L C n hl hc hL hC (by rw [hz2]; omega) (by unfold maxLen; omega) (Nat.le_refl _) ?_
  intro w' ho hgr
  have he : (madeCells (Value.int .u8 0).cells (n * 1)).toList = bys (List.replicate n 0#8) := by
    rw [Nat.mul_one]
    rw [show (Value.int .u8 0).cells = #[Value.int .u8 0] from rfl, toList_madeCells_one]
    simp [bys, bv]
  rw [he] at ho
  have hlt := ho.lt w.heap.size rfl
  exact hK w' w.heap.size (own_lower ho b4) ((Below.refl _ _).grown hgr (Nat.le_refl _) (by intro k hk; cases hk)) hlt.1 hlt.2

/-- A call answers bytes of its own. -/
def RetB (w : World) (l : List B8) (e : Ending) (w' : World) : Prop :=
  ∃ A c, e = .returned (.slice A l.length c) ∧ w'.ownsRow w.heap.size 5 1 (.slice A l.length c) l.length (bys l) ∧ Below w.heap.size w w'

theorem RetB.mk {w w1 w' : World} {B : Nat} {l : List B8} {A : Option Addr} {n c : Nat} (hn : n = l.length) (ho : w'.ownsRow B 5 1 (.slice A n c) n (bys l)) (hB : w.heap.size ≤ B) (hb : Below w.heap.size w w') :
    RetB w l (.returned (.slice A n c)) w' := by
  subst hn
  exact ⟨A, c, rfl, own_lower ho hB, hb⟩

/-- The same, with the length as the caller spells it. -/
def RetN (w : World) (n : Nat) (l : List B8) (e : Ending) (w' : World) : Prop :=
  ∃ A c, e = .returned (.slice A n c) ∧ w'.ownsRow w.heap.size 5 1 (.slice A n c) n (bys l) ∧ Below w.heap.size w w'

set_option maxHeartbeats 400000 in
set_option maxRecDepth 100000 in
theorem clone_calls {w : World} {A : Option Addr} {n c : Nat} {l : List B8} (hA : At w A (bys l)) (hn : n = l.length) (hnil : A = none → c = 0) (hmax : l.length ≤ 140737488355328) :
    Calls Try.prog 19 #[.slice A n c] w (RetN w n l) := by
  subst hn
  cases A with
  | none =>
    have hl := hA.empty_of_none
    have hl0 : l = [] := by cases l with | nil => rfl | cons x xs => cases hl
    clear hl hmax hA
    obtain rfl := hnil rfl
    clear hnil
    subst hl0
    have heq := fun (w : World) => Lib.run_eql_slice_nil (P := Try.prog) w 28 5 none 0 0 0 0 Try.underlying28
    go_enter Try.func19, Try.ntmps19
    go_wp2
    go_ret
    exact ⟨none, 0, rfl, World.ownsRow_nil _ _ _ _, Below.refl _ _⟩
  | some ad =>
    have heq := fun (w : World) => Lib.run_eql_slice_nil (P := Try.prog) w 28 5 (some ad) l.length c 0 0 Try.underlying28
    go_enter Try.func19, Try.ntmps19
    go_wp2_with (at_builtin; refine app_bytes rfl _ _ rfl w.heap.size rfl (xs := []) (World.ownsRow_lit w #[] 0 (Nat.le_refl _) (by decide) rfl) rfl (m := l.length) rfl (hA.below ((Below.refl _ _).alloc (Nat.le_refl _) _)) hnil (by omega) (by simp) ?_; intro A' c' w' ho hb hg hc)
    go_ret
    simp only [Nat.zero_add, List.nil_append] at ho
    exact ⟨_, _, rfl, own_lower ho (Nat.le_refl _), ((Below.refl _ _).alloc (Nat.le_refl _) _).trans hb⟩


set_option maxHeartbeats 400000 in
theorem equal_calls {w : World} {A B : Option Addr} {n c m d : Nat} {l k : List B8} (hA : At w A (bys l)) (hB : At w B (bys k)) (hn : n = l.length) (hm : m = k.length) :
    Calls Try.prog 11 #[.slice A n c, .slice B m d] w fun e w' => e = .returned (.bool (decide (l = k))) ∧ w = w' := by
  have h1 := conv_str (P := Try.prog) w 28 9 5 Try.underlying28 Try.underlying5 Try.underlying9 (c := c) hA hn
  have h2 := conv_str (P := Try.prog) w 28 9 5 Try.underlying28 Try.underlying5 Try.underlying9 (c := d) hB hm
  clear hn hm
  go_enter Try.func11, Try.ntmps11
  go_wp2
  go_ret
  exact ⟨ret_bool (str_beq l k), rfl⟩

end Go.Proofs.Ytfcacplecapgfaa
