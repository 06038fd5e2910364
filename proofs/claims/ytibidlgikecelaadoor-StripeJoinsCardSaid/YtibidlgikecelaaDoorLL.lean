/- What the laid table gives, and a world that holds it. -/
import Derived.Test.YtibidlgikecelaaDoorCards
import Derived.Test.YtibidlgikecelaaDoorTie
import Derived.Test.YtibidlgikecelaaDoorWA
import Derived.Test.YtibidlgikecelaaDoorLK
import Derived.WalkKit
import Derived.ProofKit
import Derived.OpenShut
import Derived.Deep.DeepHandedRow
import Derived.Lib.LaidTab
import Derived.SevenTiedAt
namespace Go.Proofs.YtibidlgikecelaaDoor
open Go.ChangeShapes Go.WideShapes Go.ChangeAt Go.RowKit
theorem gFold : Tryd.prog.globalNamed "amphora/galois.fold" = some 0 := by kernel_rfl
theorem gFoldType : (Tryd.prog.globals[0]?).map (·.type) = some 99 := by kernel_rfl
theorem cellsFold : Tryd.prog.cellsOf 99 = 16 := by kernel_rfl
theorem cellsByte : Tryd.prog.cellsOf 5 = 1 := by kernel_rfl
/-- The table's cells hold its sixteen numbers. -/
theorem fold_of {W : World} (h : laidMetH Tryd.prog [("amphora/galois.fold", Rows.laid_amphora_galois_fold)] W) : FoldAt W := by
  have ht : Lib.TabIs Tryd.prog W "amphora/galois.fold" .u8 [0, 29, 58, 39, 116, 105, 78, 83, 232, 245, 210, 207, 156, 129, 166, 187] :=
    Lib.tabIs_of_head (rest := []) gFold gFoldType Tryd.underlying99 Tryd.underlying5 cellsByte cellsFold h
  intro i x hx
  refine ⟨0, 0, rfl, ?_⟩
  rw [Nat.zero_add]
  have hb : bys foldT = [0, 29, 58, 39, 116, 105, 78, 83, 232, 245, 210, 207, 156, 129, 166, 187].map fun z => Value.int .u8 z := rfl
  have hi : i < 16 := by
    rcases Nat.lt_or_ge i 16 with h | h
    · exact h
    · rw [List.getElem?_eq_none (by simpa [bys, foldT] using h)] at hx; cases hx
  have hc := ht.cell gFold i (by simpa using hi)
  rw [hc, ← hx, hb, List.getElem?_map, List.getElem?_eq_getElem (by simpa using hi), List.getD_eq_getElem?_getD, List.getElem?_eq_getElem (by simpa using hi)]
  rfl
/-- A world for the witness. -/
noncomputable def laidWorld (os : Os) : World :=
  { World.holding Tryd.prog os ⟨#[], #[], []⟩ with heap := (World.holding Tryd.prog os ⟨#[], #[], []⟩).heap.modify 0 fun
      | .cells _ t frozen => .cells #[.int .u8 0, .int .u8 29, .int .u8 58, .int .u8 39, .int .u8 116, .int .u8 105, .int .u8 78, .int .u8 83, .int .u8 232, .int .u8 245, .int .u8 210, .int .u8 207, .int .u8 156, .int .u8 129, .int .u8 166, .int .u8 187] t frozen
      | o => o }
theorem laid_met (os : Os) (args : Array Value) : laidMet Tryd.prog [("amphora/galois.fold", Rows.laid_amphora_galois_fold)] ((laidWorld os).forCall (fun _ _ => 0) ⟨#[], args, []⟩).memory :=
  laidMet_of_run' 8 (by kernel_rfl) (by kernel_rfl)

/-! ### The program's head words: their signs as a list, so that no text is read sign by sign by the kernel -/
set_option maxRecDepth 100000 in
def order : { l : List Char // Tryd.prog.initOrder = String.ofList l } := ⟨_, rfl⟩
theorem order_is : Tryd.prog.initOrder.toList = order.1 := (congrArg String.toList order.2).trans String.toList_ofList
set_option maxRecDepth 100000 in
theorem mainIs_gen (P : Program) (h : P.initOrder.toList = order.1) : P.mainIs = some (true, "f4a7266ae5e4e3e0d1d66533f5f0ee5b43716b4f8008313f28e9aa1afa5fa7a2".toList) := by
  unfold Program.mainIs; rw [h]; kernel_rfl
theorem lifts_gen (P : Program) (h : P.initOrder.toList = order.1) : P.headLifts = [] := by
  unfold Program.headLifts; rw [h]; kernel_rfl
theorem final_gen (P : Program) (h : P.initOrder.toList = order.1) : P.liftsFinal = false := by
  unfold Program.liftsFinal; rw [lifts_gen P h, h]; kernel_rfl
theorem make_gen (P : Program) (h : P.initOrder.toList = order.1) : P.make = some .cut := by
  unfold Program.make; rw [lifts_gen P h, h]; kernel_rfl
theorem words_cut : ∃ rest, behindMainWord (wordsSigns order.1) = "cut".toList :: rest := ⟨(behindMainWord (wordsSigns order.1)).tail, by kernel_rfl⟩
theorem enter_gen (P : Program) (h : P.initOrder.toList = order.1) (h1 : P.laysLater = false) (h2 : P.bearsReflect = false) (h3 : P.doorFits [] = true) : P.mayEnter = true := by
  obtain ⟨rest, hr⟩ := words_cut
  have hs : stripLifts liftWords ("cut".toList :: rest) = ([], "cut".toList :: rest) := by kernel_rfl
  unfold Program.mayEnter
  rw [h, hr]
  simp only [hs, h1, h2, h3]
  simp
theorem lays : Tryd.prog.laysLater = false := by kernel_rfl
theorem bears : Tryd.prog.bearsReflect = false := by kernel_rfl
theorem door : Tryd.prog.doorFits [] = true := by kernel_rfl
theorem mainIs : Tryd.prog.mainIs = some (true, "f4a7266ae5e4e3e0d1d66533f5f0ee5b43716b4f8008313f28e9aa1afa5fa7a2".toList) := mainIs_gen _ order_is
theorem mayEnter : Tryd.prog.mayEnter = true := enter_gen _ order_is lays bears door
theorem liftsFinal : Tryd.prog.liftsFinal = false := final_gen _ order_is
theorem makeCut : Tryd.prog.make = some .cut := make_gen _ order_is
end Go.Proofs.YtibidlgikecelaaDoor
