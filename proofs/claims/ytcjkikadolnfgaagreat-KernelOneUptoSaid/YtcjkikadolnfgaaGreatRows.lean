/-
  NARROWER THAN 'FOR EVERY INPUT', by the rows' own cells (each row's printed sentence says how): KernelHas: loops · KernelTypes: loops · KernelOne: loops.
  DERIVED. THE GIVEN ROWS OF THIS SEAT. 3 by the template 'for every input the law returns true; each argument reads behind the call as it read before'; 0 by the template 'total and deterministic' (their statements: YtcjkikadolnfgaaGreatTotals.lean).
  GIVEN WITH THE SEED: the statements are not yours to turn. If you find one false, say at which input.
  Laid BY PROGRAM, IN A SANDBOX (cutbox-rows.mjs): the forced cells as the released guide's own fill.sh prints them over the translation 618846458d075fd7… (all of the seat's roots in one cut). By AI agents, Wed Nov 11 2026. No macro, syntax, notation, axiom, sorry.
-/
import Derived.Test.YtcjkikadolnfgaaGreatChecked
import GoSem.Claim
import GoSem.ClaimJoined
import GoSem.ClaimMapViews
import Derived.JoinedTies
import Derived.KernelRfl
namespace Go.Proofs.YtcjkikadolnfgaaGreat
/- THE CELL 'sum', in the pinned program and in every row, IS THE sha256 OF THE DUMP (.gsa) THAT YtcjkikadolnfgaaGreatProg.lean LOADS. Nothing in Lean hashes anything: it is a label: what it is worth is what the hold of that sum in a sandbox is worth. -/
noncomputable def Tryz.pinned : Pinned := { name := "ytcjkikadolnfgaagreat", sum := "618846458d075fd77a9eba364ec09a3ed21116ba987cc439f1a86d974a1d2d30", checked := Tryz.checked }
namespace Rows
def none {H : Type} : Left H := { results := [], args := [] }

/-- 'waferlaw10.KernelHas': WHATEVER THE INPUT: true; the input reads as it did. -/
def kernelHasSpec : ChangeSpec := { name := "kernelHas", fn := fun _ => fun
  | [d1, d2] => { results := [.lit (.bool true)], args := [d1, d2] }
  | _ => none }
def kernelHasRow : OpenClaim := { program := "ytcjkikadolnfgaagreat", sum := "618846458d075fd77a9eba364ec09a3ed21116ba987cc439f1a86d974a1d2d30", func := "wafer/waferlaw10.KernelHas", spec := "kernelHas", unfollowed := true, recurses := true, loops := true, apart := false }
def KernelHasSaid : Prop := kernelHasRow.holds Tryz.pinned (OpenSpec.ofChange kernelHasSpec)

/-- ITS FALSE NEIGHBOUR: 'it returns false'. Refute it at one input. -/
def kernelHasWrong : ChangeSpec := { name := "kernelHas", fn := fun _ => fun
  | [d1, d2] => { results := [.lit (.bool false)], args := [d1, d2] }
  | _ => none }
def KernelHasWrongFalsely : Prop := kernelHasRow.holds Tryz.pinned (OpenSpec.ofChange kernelHasWrong)

/-- 'waferlaw10.KernelTypes': WHATEVER THE INPUT: true; the input reads as it did. -/
def kernelTypesSpec : ChangeSpec := { name := "kernelTypes", fn := fun _ => fun
  | [d1, d2] => { results := [.lit (.bool true)], args := [d1, d2] }
  | _ => none }
def kernelTypesRow : OpenClaim := { program := "ytcjkikadolnfgaagreat", sum := "618846458d075fd77a9eba364ec09a3ed21116ba987cc439f1a86d974a1d2d30", func := "wafer/waferlaw10.KernelTypes", spec := "kernelTypes", unfollowed := true, recurses := true, loops := true, apart := false }
def KernelTypesSaid : Prop := kernelTypesRow.holds Tryz.pinned (OpenSpec.ofChange kernelTypesSpec)

/-- ITS FALSE NEIGHBOUR: 'it returns false'. Refute it at one input. -/
def kernelTypesWrong : ChangeSpec := { name := "kernelTypes", fn := fun _ => fun
  | [d1, d2] => { results := [.lit (.bool false)], args := [d1, d2] }
  | _ => none }
def KernelTypesWrongFalsely : Prop := kernelTypesRow.holds Tryz.pinned (OpenSpec.ofChange kernelTypesWrong)

/-- 'waferlaw10.KernelOne': WHATEVER THE INPUT: true; the input reads as it did. -/
def kernelOneSpec : ChangeSpec := { name := "kernelOne", fn := fun _ => fun
  | [d1, d2, d3, d4] => { results := [.lit (.bool true)], args := [d1, d2, d3, d4] }
  | _ => none }
def kernelOneRow : OpenClaim := { program := "ytcjkikadolnfgaagreat", sum := "618846458d075fd77a9eba364ec09a3ed21116ba987cc439f1a86d974a1d2d30", func := "wafer/waferlaw10.KernelOne", spec := "kernelOne", unfollowed := true, recurses := true, loops := true, apart := false }
def KernelOneSaid : Prop := kernelOneRow.holds Tryz.pinned (OpenSpec.ofChange kernelOneSpec)

/-- ITS FALSE NEIGHBOUR: 'it returns false'. Refute it at one input. -/
def kernelOneWrong : ChangeSpec := { name := "kernelOne", fn := fun _ => fun
  | [d1, d2, d3, d4] => { results := [.lit (.bool false)], args := [d1, d2, d3, d4] }
  | _ => none }
def KernelOneWrongFalsely : Prop := kernelOneRow.holds Tryz.pinned (OpenSpec.ofChange kernelOneWrong)

/- THE SECOND FORM. 'bulk': how many values and letters a reading holds, each counted each time it is reached (what is shared counts as often as it is met; a slice's spare places count too). A statement '..UptoSaid' is the law's where the arguments, and the package variables that the reading takes, are together of bulk at most 1048576: NARROWER than '..Said'. Prove '..Said' where nothing that the law and all that it calls make is longer than what came in: it says more and counts as full. Else prove '..UptoSaid'. A law counts once. -/
mutual
def uptoBulk {H : Type} : DataW H → Nat
  | .lit (.string bytes) => bytes.length + 1
  | .lit _ => 1
  | .nil => 1
  | .ptr d => uptoBulk d + 1
  | .slice elems spare => uptoBulkAll elems + uptoBulkAll spare + 1
  | .agg parts => uptoBulkAll parts + 1
  | .iface _ d => uptoBulk d + 1
  | .map entries => uptoBulkEntries entries + 1
  | .held _ => 1
def uptoBulkAll {H : Type} : List (DataW H) → Nat
  | [] => 0
  | d :: r => uptoBulk d + uptoBulkAll r
def uptoBulkEntries {H : Type} : List (Lit × DataW H) → Nat
  | [] => 0
  | x :: r => uptoBulkEntry x + uptoBulkEntries r
def uptoBulkEntry {H : Type} : Lit × DataW H → Nat
  | (.string bytes, d) => bytes.length + uptoBulk d + 1
  | (_, d) => uptoBulk d + 1
 end
def uptoSmall : (H : Type) → List (DataW H) → Bool := fun _ ds => decide (uptoBulkAll ds ≤ 1048576)
def OpenSpec.upto (s : _root_.Go.ChangeSpec) : _root_.Go.OpenSpec := { _root_.Go.OpenSpec.ofChange s with cond := some uptoSmall }

/-- 'waferlaw10.KernelHas', WHERE WHAT IT READS IS OF BULK AT MOST 1048576: true; the input reads as it did. -/
def kernelHasUptoRow : OpenClaim := { program := "ytcjkikadolnfgaagreat", sum := "618846458d075fd77a9eba364ec09a3ed21116ba987cc439f1a86d974a1d2d30", func := "wafer/waferlaw10.KernelHas", spec := "kernelHas", unfollowed := true, recurses := true, loops := true, apart := false, narrowed := true }
def KernelHasUptoSaid : Prop := kernelHasUptoRow.holds Tryz.pinned (OpenSpec.upto kernelHasSpec)

/-- 'waferlaw10.KernelTypes', WHERE WHAT IT READS IS OF BULK AT MOST 1048576: true; the input reads as it did. -/
def kernelTypesUptoRow : OpenClaim := { program := "ytcjkikadolnfgaagreat", sum := "618846458d075fd77a9eba364ec09a3ed21116ba987cc439f1a86d974a1d2d30", func := "wafer/waferlaw10.KernelTypes", spec := "kernelTypes", unfollowed := true, recurses := true, loops := true, apart := false, narrowed := true }
def KernelTypesUptoSaid : Prop := kernelTypesUptoRow.holds Tryz.pinned (OpenSpec.upto kernelTypesSpec)

/-- 'waferlaw10.KernelOne', WHERE WHAT IT READS IS OF BULK AT MOST 1048576: true; the input reads as it did. -/
def kernelOneUptoRow : OpenClaim := { program := "ytcjkikadolnfgaagreat", sum := "618846458d075fd77a9eba364ec09a3ed21116ba987cc439f1a86d974a1d2d30", func := "wafer/waferlaw10.KernelOne", spec := "kernelOne", unfollowed := true, recurses := true, loops := true, apart := false, narrowed := true }
def KernelOneUptoSaid : Prop := kernelOneUptoRow.holds Tryz.pinned (OpenSpec.upto kernelOneSpec)

end Rows
end Go.Proofs.YtcjkikadolnfgaaGreat
