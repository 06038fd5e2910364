/-
  No cell of these rows narrows 'for every input' (looked for: loops, veiled, ifaces, maps, wideKeys, modest, calm, conditions, laid).
  DERIVED. THE GIVEN ROWS OF THIS SEAT. 6 by the template 'for every input the law returns true; each argument reads behind the call as it read before'; 0 by the template 'total and deterministic' (their statements: YtlcchpjficbgmaaTotals.lean).
  GIVEN WITH THE SEED: the statements are not yours to turn. If you find one false, say at which input.
  Laid BY PROGRAM, IN A SANDBOX (cutbox-rows.mjs): the forced cells as the released guide's own fill.sh prints them over the translation 9ee83e6a7cd0fecc… (all of the seat's roots in one cut). By AI agents, Wed Nov 11 2026. No macro, syntax, notation, axiom, sorry.
-/
import Derived.Test.YtlcchpjficbgmaaChecked
import GoSem.Claim
import GoSem.ClaimJoined
import GoSem.ClaimMapViews
import Derived.JoinedTies
import Derived.KernelRfl
namespace Go.Proofs.Ytlcchpjficbgmaa
/- THE CELL 'sum', in the pinned program and in every row, IS THE sha256 OF THE DUMP (.gsa) THAT YtlcchpjficbgmaaProg.lean LOADS. Nothing in Lean hashes anything: it is a label: what it is worth is what the hold of that sum in a sandbox is worth. -/
noncomputable def Try.pinned : Pinned := { name := "ytlcchpjficbgmaa", sum := "9ee83e6a7cd0fecc4660f68971dae848d49314157d30e32ea276f2202964d48c", checked := Try.checked }
namespace Rows
def none {H : Type} : Left H := { results := [], args := [] }

/-- 'amphoralaw13.ChainClash': WHATEVER THE INPUT: true; the input reads as it did. -/
def chainClashSpec : ChangeSpec := { name := "chainClash", fn := fun _ => fun
  | [d1, d2, d3] => { results := [.lit (.bool true)], args := [d1, d2, d3] }
  | _ => none }
def chainClashRow : OpenClaim := { program := "ytlcchpjficbgmaa", sum := "9ee83e6a7cd0fecc4660f68971dae848d49314157d30e32ea276f2202964d48c", func := "amphora/amphoralaw13.ChainClash", spec := "chainClash", unfollowed := true, recurses := true, apart := false }
def ChainClashSaid : Prop := chainClashRow.holds Try.pinned (OpenSpec.ofChange chainClashSpec)

/-- ITS FALSE NEIGHBOUR: 'it returns false'. Refute it at one input. -/
def chainClashWrong : ChangeSpec := { name := "chainClash", fn := fun _ => fun
  | [d1, d2, d3] => { results := [.lit (.bool false)], args := [d1, d2, d3] }
  | _ => none }
def ChainClashWrongFalsely : Prop := chainClashRow.holds Try.pinned (OpenSpec.ofChange chainClashWrong)

/-- 'amphoralaw13.ChainNext': WHATEVER THE INPUT: true; the input reads as it did. -/
def chainNextSpec : ChangeSpec := { name := "chainNext", fn := fun _ => fun
  | [d] => { results := [.lit (.bool true)], args := [d] }
  | _ => none }
def chainNextRow : OpenClaim := { program := "ytlcchpjficbgmaa", sum := "9ee83e6a7cd0fecc4660f68971dae848d49314157d30e32ea276f2202964d48c", func := "amphora/amphoralaw13.ChainNext", spec := "chainNext", unfollowed := true, recurses := true, apart := false }
def ChainNextSaid : Prop := chainNextRow.holds Try.pinned (OpenSpec.ofChange chainNextSpec)

/-- ITS FALSE NEIGHBOUR: 'it returns false'. Refute it at one input. -/
def chainNextWrong : ChangeSpec := { name := "chainNext", fn := fun _ => fun
  | [d] => { results := [.lit (.bool false)], args := [d] }
  | _ => none }
def ChainNextWrongFalsely : Prop := chainNextRow.holds Try.pinned (OpenSpec.ofChange chainNextWrong)

/-- 'amphoralaw13.ChainNobody': WHATEVER THE INPUT: true; the input reads as it did. -/
def chainNobodySpec : ChangeSpec := { name := "chainNobody", fn := fun _ => fun
  | [d1, d2] => { results := [.lit (.bool true)], args := [d1, d2] }
  | _ => none }
def chainNobodyRow : OpenClaim := { program := "ytlcchpjficbgmaa", sum := "9ee83e6a7cd0fecc4660f68971dae848d49314157d30e32ea276f2202964d48c", func := "amphora/amphoralaw13.ChainNobody", spec := "chainNobody", unfollowed := true, recurses := true, apart := false }
def ChainNobodySaid : Prop := chainNobodyRow.holds Try.pinned (OpenSpec.ofChange chainNobodySpec)

/-- ITS FALSE NEIGHBOUR: 'it returns false'. Refute it at one input. -/
def chainNobodyWrong : ChangeSpec := { name := "chainNobody", fn := fun _ => fun
  | [d1, d2] => { results := [.lit (.bool false)], args := [d1, d2] }
  | _ => none }
def ChainNobodyWrongFalsely : Prop := chainNobodyRow.holds Try.pinned (OpenSpec.ofChange chainNobodyWrong)

/-- 'amphoralaw13.ChainPieces': WHATEVER THE INPUT: true; the input reads as it did. -/
def chainPiecesSpec : ChangeSpec := { name := "chainPieces", fn := fun _ => fun
  | [d1, d2] => { results := [.lit (.bool true)], args := [d1, d2] }
  | _ => none }
def chainPiecesRow : OpenClaim := { program := "ytlcchpjficbgmaa", sum := "9ee83e6a7cd0fecc4660f68971dae848d49314157d30e32ea276f2202964d48c", func := "amphora/amphoralaw13.ChainPieces", spec := "chainPieces", unfollowed := true, recurses := true, apart := false }
def ChainPiecesSaid : Prop := chainPiecesRow.holds Try.pinned (OpenSpec.ofChange chainPiecesSpec)

/-- ITS FALSE NEIGHBOUR: 'it returns false'. Refute it at one input. -/
def chainPiecesWrong : ChangeSpec := { name := "chainPieces", fn := fun _ => fun
  | [d1, d2] => { results := [.lit (.bool false)], args := [d1, d2] }
  | _ => none }
def ChainPiecesWrongFalsely : Prop := chainPiecesRow.holds Try.pinned (OpenSpec.ofChange chainPiecesWrong)

/-- 'amphoralaw13.ChainLives': WHATEVER THE INPUT: true; the input reads as it did. -/
def chainLivesSpec : ChangeSpec := { name := "chainLives", fn := fun _ => fun
  | [d1, d2] => { results := [.lit (.bool true)], args := [d1, d2] }
  | _ => none }
def chainLivesRow : OpenClaim := { program := "ytlcchpjficbgmaa", sum := "9ee83e6a7cd0fecc4660f68971dae848d49314157d30e32ea276f2202964d48c", func := "amphora/amphoralaw13.ChainLives", spec := "chainLives", unfollowed := true, recurses := true, apart := false }
def ChainLivesSaid : Prop := chainLivesRow.holds Try.pinned (OpenSpec.ofChange chainLivesSpec)

/-- ITS FALSE NEIGHBOUR: 'it returns false'. Refute it at one input. -/
def chainLivesWrong : ChangeSpec := { name := "chainLives", fn := fun _ => fun
  | [d1, d2] => { results := [.lit (.bool false)], args := [d1, d2] }
  | _ => none }
def ChainLivesWrongFalsely : Prop := chainLivesRow.holds Try.pinned (OpenSpec.ofChange chainLivesWrong)

/-- 'amphoralaw13.ChainOrder': WHATEVER THE INPUT: true; the input reads as it did. -/
def chainOrderSpec : ChangeSpec := { name := "chainOrder", fn := fun _ => fun
  | [d] => { results := [.lit (.bool true)], args := [d] }
  | _ => none }
def chainOrderRow : OpenClaim := { program := "ytlcchpjficbgmaa", sum := "9ee83e6a7cd0fecc4660f68971dae848d49314157d30e32ea276f2202964d48c", func := "amphora/amphoralaw13.ChainOrder", spec := "chainOrder", unfollowed := true, recurses := true, apart := false }
def ChainOrderSaid : Prop := chainOrderRow.holds Try.pinned (OpenSpec.ofChange chainOrderSpec)

/-- ITS FALSE NEIGHBOUR: 'it returns false'. Refute it at one input. -/
def chainOrderWrong : ChangeSpec := { name := "chainOrder", fn := fun _ => fun
  | [d] => { results := [.lit (.bool false)], args := [d] }
  | _ => none }
def ChainOrderWrongFalsely : Prop := chainOrderRow.holds Try.pinned (OpenSpec.ofChange chainOrderWrong)

/- THE SECOND FORM. 'bulk': how many values and letters a reading holds, each counted each time it is reached (what is shared counts as often as it is met; a slice's spare places count too). A statement '..UptoSaid' is the law's where the arguments, and the package variables that the reading takes, are together of bulk at most 1048576: NARROWER than '..Said'. Prove '..Said' where nothing that the law and all that it calls make is longer than what came in: it says more and counts as full. Else prove '..UptoSaid'. A law counts once. -/
mutual
def uptoBulk {H : Type} : DataW H → Nat
  | .lit (.string bytes) => bytes.length + 1
  | .lit _ => 1
  | .nil => 1
  | .ptr d => uptoBulk d + 1
  | .slice elems spare => uptoBulkAll elems + uptoBulkAll spare + 1
  | .agg parts => uptoBulkAll parts + 1
  | .iface _ d => uptoBulk d + 1
  | .map entries => uptoBulkEntries entries + 1
  | .held _ => 1
def uptoBulkAll {H : Type} : List (DataW H) → Nat
  | [] => 0
  | d :: r => uptoBulk d + uptoBulkAll r
def uptoBulkEntries {H : Type} : List (Lit × DataW H) → Nat
  | [] => 0
  | x :: r => uptoBulkEntry x + uptoBulkEntries r
def uptoBulkEntry {H : Type} : Lit × DataW H → Nat
  | (.string bytes, d) => bytes.length + uptoBulk d + 1
  | (_, d) => uptoBulk d + 1
 end
def uptoSmall : (H : Type) → List (DataW H) → Bool := fun _ ds => decide (uptoBulkAll ds ≤ 1048576)
def OpenSpec.upto (s : _root_.Go.ChangeSpec) : _root_.Go.OpenSpec := { _root_.Go.OpenSpec.ofChange s with cond := some uptoSmall }

/-- 'amphoralaw13.ChainClash', WHERE WHAT IT READS IS OF BULK AT MOST 1048576: true; the input reads as it did. -/
def chainClashUptoRow : OpenClaim := { program := "ytlcchpjficbgmaa", sum := "9ee83e6a7cd0fecc4660f68971dae848d49314157d30e32ea276f2202964d48c", func := "amphora/amphoralaw13.ChainClash", spec := "chainClash", unfollowed := true, recurses := true, apart := false, narrowed := true }
def ChainClashUptoSaid : Prop := chainClashUptoRow.holds Try.pinned (OpenSpec.upto chainClashSpec)

/-- 'amphoralaw13.ChainNext', WHERE WHAT IT READS IS OF BULK AT MOST 1048576: true; the input reads as it did. -/
def chainNextUptoRow : OpenClaim := { program := "ytlcchpjficbgmaa", sum := "9ee83e6a7cd0fecc4660f68971dae848d49314157d30e32ea276f2202964d48c", func := "amphora/amphoralaw13.ChainNext", spec := "chainNext", unfollowed := true, recurses := true, apart := false, narrowed := true }
def ChainNextUptoSaid : Prop := chainNextUptoRow.holds Try.pinned (OpenSpec.upto chainNextSpec)

/-- 'amphoralaw13.ChainNobody', WHERE WHAT IT READS IS OF BULK AT MOST 1048576: true; the input reads as it did. -/
def chainNobodyUptoRow : OpenClaim := { program := "ytlcchpjficbgmaa", sum := "9ee83e6a7cd0fecc4660f68971dae848d49314157d30e32ea276f2202964d48c", func := "amphora/amphoralaw13.ChainNobody", spec := "chainNobody", unfollowed := true, recurses := true, apart := false, narrowed := true }
def ChainNobodyUptoSaid : Prop := chainNobodyUptoRow.holds Try.pinned (OpenSpec.upto chainNobodySpec)

/-- 'amphoralaw13.ChainPieces', WHERE WHAT IT READS IS OF BULK AT MOST 1048576: true; the input reads as it did. -/
def chainPiecesUptoRow : OpenClaim := { program := "ytlcchpjficbgmaa", sum := "9ee83e6a7cd0fecc4660f68971dae848d49314157d30e32ea276f2202964d48c", func := "amphora/amphoralaw13.ChainPieces", spec := "chainPieces", unfollowed := true, recurses := true, apart := false, narrowed := true }
def ChainPiecesUptoSaid : Prop := chainPiecesUptoRow.holds Try.pinned (OpenSpec.upto chainPiecesSpec)

/-- 'amphoralaw13.ChainLives', WHERE WHAT IT READS IS OF BULK AT MOST 1048576: true; the input reads as it did. -/
def chainLivesUptoRow : OpenClaim := { program := "ytlcchpjficbgmaa", sum := "9ee83e6a7cd0fecc4660f68971dae848d49314157d30e32ea276f2202964d48c", func := "amphora/amphoralaw13.ChainLives", spec := "chainLives", unfollowed := true, recurses := true, apart := false, narrowed := true }
def ChainLivesUptoSaid : Prop := chainLivesUptoRow.holds Try.pinned (OpenSpec.upto chainLivesSpec)

/-- 'amphoralaw13.ChainOrder', WHERE WHAT IT READS IS OF BULK AT MOST 1048576: true; the input reads as it did. -/
def chainOrderUptoRow : OpenClaim := { program := "ytlcchpjficbgmaa", sum := "9ee83e6a7cd0fecc4660f68971dae848d49314157d30e32ea276f2202964d48c", func := "amphora/amphoralaw13.ChainOrder", spec := "chainOrder", unfollowed := true, recurses := true, apart := false, narrowed := true }
def ChainOrderUptoSaid : Prop := chainOrderUptoRow.holds Try.pinned (OpenSpec.upto chainOrderSpec)

end Rows
end Go.Proofs.Ytlcchpjficbgmaa
