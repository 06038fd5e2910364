/-
  No cell of these rows narrows 'for every input' (looked for: loops, veiled, ifaces, maps, wideKeys, modest, calm, conditions, laid).
  DERIVED. THE GIVEN ROWS OF THIS SEAT. 4 by the template 'for every input the law returns true; each argument reads behind the call as it read before'; 0 by the template 'total and deterministic' (their statements: YtfcacplecapgfaaTotals.lean).
  GIVEN WITH THE SEED: the statements are not yours to turn. If you find one false, say at which input.
  Laid BY PROGRAM, IN A SANDBOX (cutbox-rows.mjs): the forced cells as the released guide's own fill.sh prints them over the translation ef7c49955e3bdfad… (all of the seat's roots in one cut). By AI agents, Wed Nov 11 2026. No macro, syntax, notation, axiom, sorry.
-/
import Derived.Test.YtfcacplecapgfaaChecked
import GoSem.Claim
import GoSem.ClaimJoined
import GoSem.ClaimMapViews
import Derived.JoinedTies
import Derived.KernelRfl
namespace Go.Proofs.Ytfcacplecapgfaa
/- THE CELL 'sum', in the pinned program and in every row, IS THE sha256 OF THE DUMP (.gsa) THAT YtfcacplecapgfaaProg.lean LOADS. Nothing in Lean hashes anything: it is a label: what it is worth is what the hold of that sum in a sandbox is worth. -/
noncomputable def Try.pinned : Pinned := { name := "ytfcacplecapgfaa", sum := "ef7c49955e3bdfad00d7c1a1d4f80739222b10d2c2584418fd70269cc376dab7", checked := Try.checked }
namespace Rows
def none {H : Type} : Left H := { results := [], args := [] }

/-- 'amphoralaw05.FrameCmds': WHATEVER THE INPUT: true; the input reads as it did. -/
def frameCmdsSpec : ChangeSpec := { name := "frameCmds", fn := fun _ => fun
  | [d1, d2] => { results := [.lit (.bool true)], args := [d1, d2] }
  | _ => none }
def frameCmdsRow : OpenClaim := { program := "ytfcacplecapgfaa", sum := "ef7c49955e3bdfad00d7c1a1d4f80739222b10d2c2584418fd70269cc376dab7", func := "amphora/amphoralaw05.FrameCmds", spec := "frameCmds", unfollowed := true, recurses := true, apart := false }
def FrameCmdsSaid : Prop := frameCmdsRow.holds Try.pinned (OpenSpec.ofChange frameCmdsSpec)

/-- ITS FALSE NEIGHBOUR: 'it returns false'. Refute it at one input. -/
def frameCmdsWrong : ChangeSpec := { name := "frameCmds", fn := fun _ => fun
  | [d1, d2] => { results := [.lit (.bool false)], args := [d1, d2] }
  | _ => none }
def FrameCmdsWrongFalsely : Prop := frameCmdsRow.holds Try.pinned (OpenSpec.ofChange frameCmdsWrong)

/-- 'amphoralaw05.FrameOnce': WHATEVER THE INPUT: true; the input reads as it did. -/
def frameOnceSpec : ChangeSpec := { name := "frameOnce", fn := fun _ => fun
  | [d] => { results := [.lit (.bool true)], args := [d] }
  | _ => none }
def frameOnceRow : OpenClaim := { program := "ytfcacplecapgfaa", sum := "ef7c49955e3bdfad00d7c1a1d4f80739222b10d2c2584418fd70269cc376dab7", func := "amphora/amphoralaw05.FrameOnce", spec := "frameOnce", unfollowed := true, recurses := true, apart := false }
def FrameOnceSaid : Prop := frameOnceRow.holds Try.pinned (OpenSpec.ofChange frameOnceSpec)

/-- ITS FALSE NEIGHBOUR: 'it returns false'. Refute it at one input. -/
def frameOnceWrong : ChangeSpec := { name := "frameOnce", fn := fun _ => fun
  | [d] => { results := [.lit (.bool false)], args := [d] }
  | _ => none }
def FrameOnceWrongFalsely : Prop := frameOnceRow.holds Try.pinned (OpenSpec.ofChange frameOnceWrong)

/-- 'amphoralaw05.FrameMsgs': WHATEVER THE INPUT: true; the input reads as it did. -/
def frameMsgsSpec : ChangeSpec := { name := "frameMsgs", fn := fun _ => fun
  | [d1, d2] => { results := [.lit (.bool true)], args := [d1, d2] }
  | _ => none }
def frameMsgsRow : OpenClaim := { program := "ytfcacplecapgfaa", sum := "ef7c49955e3bdfad00d7c1a1d4f80739222b10d2c2584418fd70269cc376dab7", func := "amphora/amphoralaw05.FrameMsgs", spec := "frameMsgs", unfollowed := true, recurses := true, apart := false }
def FrameMsgsSaid : Prop := frameMsgsRow.holds Try.pinned (OpenSpec.ofChange frameMsgsSpec)

/-- ITS FALSE NEIGHBOUR: 'it returns false'. Refute it at one input. -/
def frameMsgsWrong : ChangeSpec := { name := "frameMsgs", fn := fun _ => fun
  | [d1, d2] => { results := [.lit (.bool false)], args := [d1, d2] }
  | _ => none }
def FrameMsgsWrongFalsely : Prop := frameMsgsRow.holds Try.pinned (OpenSpec.ofChange frameMsgsWrong)

/-- 'amphoralaw05.FrameBack': WHATEVER THE INPUT: true; the input reads as it did. -/
def frameBackSpec : ChangeSpec := { name := "frameBack", fn := fun _ => fun
  | [d1, d2, d3] => { results := [.lit (.bool true)], args := [d1, d2, d3] }
  | _ => none }
def frameBackRow : OpenClaim := { program := "ytfcacplecapgfaa", sum := "ef7c49955e3bdfad00d7c1a1d4f80739222b10d2c2584418fd70269cc376dab7", func := "amphora/amphoralaw05.FrameBack", spec := "frameBack", unfollowed := true, recurses := true, apart := false }
def FrameBackSaid : Prop := frameBackRow.holds Try.pinned (OpenSpec.ofChange frameBackSpec)

/-- ITS FALSE NEIGHBOUR: 'it returns false'. Refute it at one input. -/
def frameBackWrong : ChangeSpec := { name := "frameBack", fn := fun _ => fun
  | [d1, d2, d3] => { results := [.lit (.bool false)], args := [d1, d2, d3] }
  | _ => none }
def FrameBackWrongFalsely : Prop := frameBackRow.holds Try.pinned (OpenSpec.ofChange frameBackWrong)

/- THE SECOND FORM. 'bulk': how many values and letters a reading holds, each counted each time it is reached (what is shared counts as often as it is met; a slice's spare places count too). A statement '..UptoSaid' is the law's where the arguments, and the package variables that the reading takes, are together of bulk at most 1048576: NARROWER than '..Said'. Prove '..Said' where nothing that the law and all that it calls make is longer than what came in: it says more and counts as full. Else prove '..UptoSaid'. A law counts once. -/
mutual
def uptoBulk {H : Type} : DataW H → Nat
  | .lit (.string bytes) => bytes.length + 1
  | .lit _ => 1
  | .nil => 1
  | .ptr d => uptoBulk d + 1
  | .slice elems spare => uptoBulkAll elems + uptoBulkAll spare + 1
  | .agg parts => uptoBulkAll parts + 1
  | .iface _ d => uptoBulk d + 1
  | .map entries => uptoBulkEntries entries + 1
  | .held _ => 1
def uptoBulkAll {H : Type} : List (DataW H) → Nat
  | [] => 0
  | d :: r => uptoBulk d + uptoBulkAll r
def uptoBulkEntries {H : Type} : List (Lit × DataW H) → Nat
  | [] => 0
  | x :: r => uptoBulkEntry x + uptoBulkEntries r
def uptoBulkEntry {H : Type} : Lit × DataW H → Nat
  | (.string bytes, d) => bytes.length + uptoBulk d + 1
  | (_, d) => uptoBulk d + 1
 end
def uptoSmall : (H : Type) → List (DataW H) → Bool := fun _ ds => decide (uptoBulkAll ds ≤ 1048576)
def OpenSpec.upto (s : _root_.Go.ChangeSpec) : _root_.Go.OpenSpec := { _root_.Go.OpenSpec.ofChange s with cond := some uptoSmall }

/-- 'amphoralaw05.FrameCmds', WHERE WHAT IT READS IS OF BULK AT MOST 1048576: true; the input reads as it did. -/
def frameCmdsUptoRow : OpenClaim := { program := "ytfcacplecapgfaa", sum := "ef7c49955e3bdfad00d7c1a1d4f80739222b10d2c2584418fd70269cc376dab7", func := "amphora/amphoralaw05.FrameCmds", spec := "frameCmds", unfollowed := true, recurses := true, apart := false, narrowed := true }
def FrameCmdsUptoSaid : Prop := frameCmdsUptoRow.holds Try.pinned (OpenSpec.upto frameCmdsSpec)

/-- 'amphoralaw05.FrameOnce', WHERE WHAT IT READS IS OF BULK AT MOST 1048576: true; the input reads as it did. -/
def frameOnceUptoRow : OpenClaim := { program := "ytfcacplecapgfaa", sum := "ef7c49955e3bdfad00d7c1a1d4f80739222b10d2c2584418fd70269cc376dab7", func := "amphora/amphoralaw05.FrameOnce", spec := "frameOnce", unfollowed := true, recurses := true, apart := false, narrowed := true }
def FrameOnceUptoSaid : Prop := frameOnceUptoRow.holds Try.pinned (OpenSpec.upto frameOnceSpec)

/-- 'amphoralaw05.FrameMsgs', WHERE WHAT IT READS IS OF BULK AT MOST 1048576: true; the input reads as it did. -/
def frameMsgsUptoRow : OpenClaim := { program := "ytfcacplecapgfaa", sum := "ef7c49955e3bdfad00d7c1a1d4f80739222b10d2c2584418fd70269cc376dab7", func := "amphora/amphoralaw05.FrameMsgs", spec := "frameMsgs", unfollowed := true, recurses := true, apart := false, narrowed := true }
def FrameMsgsUptoSaid : Prop := frameMsgsUptoRow.holds Try.pinned (OpenSpec.upto frameMsgsSpec)

/-- 'amphoralaw05.FrameBack', WHERE WHAT IT READS IS OF BULK AT MOST 1048576: true; the input reads as it did. -/
def frameBackUptoRow : OpenClaim := { program := "ytfcacplecapgfaa", sum := "ef7c49955e3bdfad00d7c1a1d4f80739222b10d2c2584418fd70269cc376dab7", func := "amphora/amphoralaw05.FrameBack", spec := "frameBack", unfollowed := true, recurses := true, apart := false, narrowed := true }
def FrameBackUptoSaid : Prop := frameBackUptoRow.holds Try.pinned (OpenSpec.upto frameBackSpec)

end Rows
end Go.Proofs.Ytfcacplecapgfaa
