/-
  No cell of these rows narrows 'for every input' (looked for: loops, veiled, ifaces, maps, wideKeys, modest, calm, conditions, laid).
  DERIVED. THE GIVEN ROWS OF THIS SEAT. 6 by the template 'for every input the law returns true; each argument reads behind the call as it read before'; 0 by the template 'total and deterministic' (their statements: YtohhchcjfebkhaaTotals.lean).
  GIVEN WITH THE SEED: the statements are not yours to turn. If you find one false, say at which input.
  Laid BY PROGRAM, IN A SANDBOX (cutbox-rows.mjs): the forced cells as the released guide's own fill.sh prints them over the translation b0754089ba2181de… (all of the seat's roots in one cut). By AI agents, Wed Nov 11 2026. No macro, syntax, notation, axiom, sorry.
-/
import Derived.Test.YtohhchcjfebkhaaChecked
import GoSem.Claim
import GoSem.ClaimJoined
import GoSem.ClaimMapViews
import Derived.JoinedTies
import Derived.KernelRfl
namespace Go.Proofs.Ytohhchcjfebkhaa
/- THE CELL 'sum', in the pinned program and in every row, IS THE sha256 OF THE DUMP (.gsa) THAT YtohhchcjfebkhaaProg.lean LOADS. Nothing in Lean hashes anything: it is a label: what it is worth is what the hold of that sum in a sandbox is worth. -/
noncomputable def Try.pinned : Pinned := { name := "ytohhchcjfebkhaa", sum := "b0754089ba2181de96e3c10b2328ff2a54adbbacfb635035aa76b561240d6990", checked := Try.checked }
namespace Rows
def none {H : Type} : Left H := { results := [], args := [] }

/-- 'waferlaw22.QueueOrder': WHATEVER THE INPUT: true; the input reads as it did. -/
def queueOrderSpec : ChangeSpec := { name := "queueOrder", fn := fun _ => fun
  | [d] => { results := [.lit (.bool true)], args := [d] }
  | _ => none }
def queueOrderRow : OpenClaim := { program := "ytohhchcjfebkhaa", sum := "b0754089ba2181de96e3c10b2328ff2a54adbbacfb635035aa76b561240d6990", func := "wafer/waferlaw22.QueueOrder", spec := "queueOrder", unfollowed := true, recurses := true, apart := false }
def QueueOrderSaid : Prop := queueOrderRow.holds Try.pinned (OpenSpec.ofChange queueOrderSpec)

/-- ITS FALSE NEIGHBOUR: 'it returns false'. Refute it at one input. -/
def queueOrderWrong : ChangeSpec := { name := "queueOrder", fn := fun _ => fun
  | [d] => { results := [.lit (.bool false)], args := [d] }
  | _ => none }
def QueueOrderWrongFalsely : Prop := queueOrderRow.holds Try.pinned (OpenSpec.ofChange queueOrderWrong)

/-- 'waferlaw22.QueueAnyhow': WHATEVER THE INPUT: true; the input reads as it did. -/
def queueAnyhowSpec : ChangeSpec := { name := "queueAnyhow", fn := fun _ => fun
  | [d] => { results := [.lit (.bool true)], args := [d] }
  | _ => none }
def queueAnyhowRow : OpenClaim := { program := "ytohhchcjfebkhaa", sum := "b0754089ba2181de96e3c10b2328ff2a54adbbacfb635035aa76b561240d6990", func := "wafer/waferlaw22.QueueAnyhow", spec := "queueAnyhow", unfollowed := true, recurses := true, apart := false }
def QueueAnyhowSaid : Prop := queueAnyhowRow.holds Try.pinned (OpenSpec.ofChange queueAnyhowSpec)

/-- ITS FALSE NEIGHBOUR: 'it returns false'. Refute it at one input. -/
def queueAnyhowWrong : ChangeSpec := { name := "queueAnyhow", fn := fun _ => fun
  | [d] => { results := [.lit (.bool false)], args := [d] }
  | _ => none }
def QueueAnyhowWrongFalsely : Prop := queueAnyhowRow.holds Try.pinned (OpenSpec.ofChange queueAnyhowWrong)

/-- 'waferlaw22.QueueMoves': WHATEVER THE INPUT: true; the input reads as it did. -/
def queueMovesSpec : ChangeSpec := { name := "queueMoves", fn := fun _ => fun
  | [d1, d2, d3] => { results := [.lit (.bool true)], args := [d1, d2, d3] }
  | _ => none }
def queueMovesRow : OpenClaim := { program := "ytohhchcjfebkhaa", sum := "b0754089ba2181de96e3c10b2328ff2a54adbbacfb635035aa76b561240d6990", func := "wafer/waferlaw22.QueueMoves", spec := "queueMoves", unfollowed := true, recurses := true, apart := false }
def QueueMovesSaid : Prop := queueMovesRow.holds Try.pinned (OpenSpec.ofChange queueMovesSpec)

/-- ITS FALSE NEIGHBOUR: 'it returns false'. Refute it at one input. -/
def queueMovesWrong : ChangeSpec := { name := "queueMoves", fn := fun _ => fun
  | [d1, d2, d3] => { results := [.lit (.bool false)], args := [d1, d2, d3] }
  | _ => none }
def QueueMovesWrongFalsely : Prop := queueMovesRow.holds Try.pinned (OpenSpec.ofChange queueMovesWrong)

/-- 'waferlaw22.QueueMerges': WHATEVER THE INPUT: true; the input reads as it did. -/
def queueMergesSpec : ChangeSpec := { name := "queueMerges", fn := fun _ => fun
  | [d1, d2] => { results := [.lit (.bool true)], args := [d1, d2] }
  | _ => none }
def queueMergesRow : OpenClaim := { program := "ytohhchcjfebkhaa", sum := "b0754089ba2181de96e3c10b2328ff2a54adbbacfb635035aa76b561240d6990", func := "wafer/waferlaw22.QueueMerges", spec := "queueMerges", unfollowed := true, recurses := true, apart := false }
def QueueMergesSaid : Prop := queueMergesRow.holds Try.pinned (OpenSpec.ofChange queueMergesSpec)

/-- ITS FALSE NEIGHBOUR: 'it returns false'. Refute it at one input. -/
def queueMergesWrong : ChangeSpec := { name := "queueMerges", fn := fun _ => fun
  | [d1, d2] => { results := [.lit (.bool false)], args := [d1, d2] }
  | _ => none }
def QueueMergesWrongFalsely : Prop := queueMergesRow.holds Try.pinned (OpenSpec.ofChange queueMergesWrong)

/-- 'waferlaw22.QueuePlays': WHATEVER THE INPUT: true; the input reads as it did. -/
def queuePlaysSpec : ChangeSpec := { name := "queuePlays", fn := fun _ => fun
  | [d1, d2] => { results := [.lit (.bool true)], args := [d1, d2] }
  | _ => none }
def queuePlaysRow : OpenClaim := { program := "ytohhchcjfebkhaa", sum := "b0754089ba2181de96e3c10b2328ff2a54adbbacfb635035aa76b561240d6990", func := "wafer/waferlaw22.QueuePlays", spec := "queuePlays", unfollowed := true, recurses := true, apart := false }
def QueuePlaysSaid : Prop := queuePlaysRow.holds Try.pinned (OpenSpec.ofChange queuePlaysSpec)

/-- ITS FALSE NEIGHBOUR: 'it returns false'. Refute it at one input. -/
def queuePlaysWrong : ChangeSpec := { name := "queuePlays", fn := fun _ => fun
  | [d1, d2] => { results := [.lit (.bool false)], args := [d1, d2] }
  | _ => none }
def QueuePlaysWrongFalsely : Prop := queuePlaysRow.holds Try.pinned (OpenSpec.ofChange queuePlaysWrong)

/-- 'waferlaw22.QueueClones': WHATEVER THE INPUT: true; the input reads as it did. -/
def queueClonesSpec : ChangeSpec := { name := "queueClones", fn := fun _ => fun
  | [d1, d2] => { results := [.lit (.bool true)], args := [d1, d2] }
  | _ => none }
def queueClonesRow : OpenClaim := { program := "ytohhchcjfebkhaa", sum := "b0754089ba2181de96e3c10b2328ff2a54adbbacfb635035aa76b561240d6990", func := "wafer/waferlaw22.QueueClones", spec := "queueClones", unfollowed := true, recurses := true, apart := false }
def QueueClonesSaid : Prop := queueClonesRow.holds Try.pinned (OpenSpec.ofChange queueClonesSpec)

/-- ITS FALSE NEIGHBOUR: 'it returns false'. Refute it at one input. -/
def queueClonesWrong : ChangeSpec := { name := "queueClones", fn := fun _ => fun
  | [d1, d2] => { results := [.lit (.bool false)], args := [d1, d2] }
  | _ => none }
def QueueClonesWrongFalsely : Prop := queueClonesRow.holds Try.pinned (OpenSpec.ofChange queueClonesWrong)

/- THE SECOND FORM. 'bulk': how many values and letters a reading holds, each counted each time it is reached (what is shared counts as often as it is met; a slice's spare places count too). A statement '..UptoSaid' is the law's where the arguments, and the package variables that the reading takes, are together of bulk at most 1048576: NARROWER than '..Said'. Prove '..Said' where nothing that the law and all that it calls make is longer than what came in: it says more and counts as full. Else prove '..UptoSaid'. A law counts once. -/
mutual
def uptoBulk {H : Type} : DataW H → Nat
  | .lit (.string bytes) => bytes.length + 1
  | .lit _ => 1
  | .nil => 1
  | .ptr d => uptoBulk d + 1
  | .slice elems spare => uptoBulkAll elems + uptoBulkAll spare + 1
  | .agg parts => uptoBulkAll parts + 1
  | .iface _ d => uptoBulk d + 1
  | .map entries => uptoBulkEntries entries + 1
  | .held _ => 1
def uptoBulkAll {H : Type} : List (DataW H) → Nat
  | [] => 0
  | d :: r => uptoBulk d + uptoBulkAll r
def uptoBulkEntries {H : Type} : List (Lit × DataW H) → Nat
  | [] => 0
  | x :: r => uptoBulkEntry x + uptoBulkEntries r
def uptoBulkEntry {H : Type} : Lit × DataW H → Nat
  | (.string bytes, d) => bytes.length + uptoBulk d + 1
  | (_, d) => uptoBulk d + 1
 end
def uptoSmall : (H : Type) → List (DataW H) → Bool := fun _ ds => decide (uptoBulkAll ds ≤ 1048576)
def OpenSpec.upto (s : _root_.Go.ChangeSpec) : _root_.Go.OpenSpec := { _root_.Go.OpenSpec.ofChange s with cond := some uptoSmall }

/-- 'waferlaw22.QueueOrder', WHERE WHAT IT READS IS OF BULK AT MOST 1048576: true; the input reads as it did. -/
def queueOrderUptoRow : OpenClaim := { program := "ytohhchcjfebkhaa", sum := "b0754089ba2181de96e3c10b2328ff2a54adbbacfb635035aa76b561240d6990", func := "wafer/waferlaw22.QueueOrder", spec := "queueOrder", unfollowed := true, recurses := true, apart := false, narrowed := true }
def QueueOrderUptoSaid : Prop := queueOrderUptoRow.holds Try.pinned (OpenSpec.upto queueOrderSpec)

/-- 'waferlaw22.QueueAnyhow', WHERE WHAT IT READS IS OF BULK AT MOST 1048576: true; the input reads as it did. -/
def queueAnyhowUptoRow : OpenClaim := { program := "ytohhchcjfebkhaa", sum := "b0754089ba2181de96e3c10b2328ff2a54adbbacfb635035aa76b561240d6990", func := "wafer/waferlaw22.QueueAnyhow", spec := "queueAnyhow", unfollowed := true, recurses := true, apart := false, narrowed := true }
def QueueAnyhowUptoSaid : Prop := queueAnyhowUptoRow.holds Try.pinned (OpenSpec.upto queueAnyhowSpec)

/-- 'waferlaw22.QueueMoves', WHERE WHAT IT READS IS OF BULK AT MOST 1048576: true; the input reads as it did. -/
def queueMovesUptoRow : OpenClaim := { program := "ytohhchcjfebkhaa", sum := "b0754089ba2181de96e3c10b2328ff2a54adbbacfb635035aa76b561240d6990", func := "wafer/waferlaw22.QueueMoves", spec := "queueMoves", unfollowed := true, recurses := true, apart := false, narrowed := true }
def QueueMovesUptoSaid : Prop := queueMovesUptoRow.holds Try.pinned (OpenSpec.upto queueMovesSpec)

/-- 'waferlaw22.QueueMerges', WHERE WHAT IT READS IS OF BULK AT MOST 1048576: true; the input reads as it did. -/
def queueMergesUptoRow : OpenClaim := { program := "ytohhchcjfebkhaa", sum := "b0754089ba2181de96e3c10b2328ff2a54adbbacfb635035aa76b561240d6990", func := "wafer/waferlaw22.QueueMerges", spec := "queueMerges", unfollowed := true, recurses := true, apart := false, narrowed := true }
def QueueMergesUptoSaid : Prop := queueMergesUptoRow.holds Try.pinned (OpenSpec.upto queueMergesSpec)

/-- 'waferlaw22.QueuePlays', WHERE WHAT IT READS IS OF BULK AT MOST 1048576: true; the input reads as it did. -/
def queuePlaysUptoRow : OpenClaim := { program := "ytohhchcjfebkhaa", sum := "b0754089ba2181de96e3c10b2328ff2a54adbbacfb635035aa76b561240d6990", func := "wafer/waferlaw22.QueuePlays", spec := "queuePlays", unfollowed := true, recurses := true, apart := false, narrowed := true }
def QueuePlaysUptoSaid : Prop := queuePlaysUptoRow.holds Try.pinned (OpenSpec.upto queuePlaysSpec)

/-- 'waferlaw22.QueueClones', WHERE WHAT IT READS IS OF BULK AT MOST 1048576: true; the input reads as it did. -/
def queueClonesUptoRow : OpenClaim := { program := "ytohhchcjfebkhaa", sum := "b0754089ba2181de96e3c10b2328ff2a54adbbacfb635035aa76b561240d6990", func := "wafer/waferlaw22.QueueClones", spec := "queueClones", unfollowed := true, recurses := true, apart := false, narrowed := true }
def QueueClonesUptoSaid : Prop := queueClonesUptoRow.holds Try.pinned (OpenSpec.upto queueClonesSpec)

end Rows
end Go.Proofs.Ytohhchcjfebkhaa
