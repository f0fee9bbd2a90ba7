/-
  NARROWER THAN 'FOR EVERY INPUT', by the rows' own cells (each row's printed sentence says how): TransTypes: loops · TransData: loops · TransLabels: loops · TransFree: loops · TransUnlike: loops · TransPutting: loops.
  DERIVED. THE GIVEN ROWS OF THIS SEAT. 6 by the template 'for every input the law returns true; each argument reads behind the call as it read before'; 0 by the template 'total and deterministic' (their statements: YtmjjajhkokdikaaGreatTotals.lean).
  GIVEN WITH THE SEED: the statements are not yours to turn. If you find one false, say at which input.
  Laid BY PROGRAM, IN A SANDBOX (cutbox-rows.mjs): the forced cells as the released guide's own fill.sh prints them over the translation dddf9f8e10dfcd99… (all of the seat's roots in one cut). By AI agents, Wed Nov 11 2026. No macro, syntax, notation, axiom, sorry.
-/
import Derived.Test.YtmjjajhkokdikaaGreatChecked
import GoSem.Claim
import GoSem.ClaimJoined
import GoSem.ClaimMapViews
import Derived.JoinedTies
import Derived.KernelRfl
namespace Go.Proofs.YtmjjajhkokdikaaGreat
/- THE CELL 'sum', in the pinned program and in every row, IS THE sha256 OF THE DUMP (.gsa) THAT YtmjjajhkokdikaaGreatProg.lean LOADS. Nothing in Lean hashes anything: it is a label: what it is worth is what the hold of that sum in a sandbox is worth. -/
noncomputable def Tryz.pinned : Pinned := { name := "ytmjjajhkokdikaagreat", sum := "dddf9f8e10dfcd9926e94faf866320f3b49c7e2412dc164cb78e4d77d45c1ffe", checked := Tryz.checked }
namespace Rows
def none {H : Type} : Left H := { results := [], args := [] }

/-- 'waferlaw14.TransTypes': WHATEVER THE INPUT: true; the input reads as it did. -/
def transTypesSpec : ChangeSpec := { name := "transTypes", fn := fun _ => fun
  | [d1, d2] => { results := [.lit (.bool true)], args := [d1, d2] }
  | _ => none }
def transTypesRow : OpenClaim := { program := "ytmjjajhkokdikaagreat", sum := "dddf9f8e10dfcd9926e94faf866320f3b49c7e2412dc164cb78e4d77d45c1ffe", func := "wafer/waferlaw14.TransTypes", spec := "transTypes", unfollowed := true, recurses := true, loops := true, apart := false }
def TransTypesSaid : Prop := transTypesRow.holds Tryz.pinned (OpenSpec.ofChange transTypesSpec)

/-- ITS FALSE NEIGHBOUR: 'it returns false'. Refute it at one input. -/
def transTypesWrong : ChangeSpec := { name := "transTypes", fn := fun _ => fun
  | [d1, d2] => { results := [.lit (.bool false)], args := [d1, d2] }
  | _ => none }
def TransTypesWrongFalsely : Prop := transTypesRow.holds Tryz.pinned (OpenSpec.ofChange transTypesWrong)

/-- 'waferlaw14.TransData': WHATEVER THE INPUT: true; the input reads as it did. -/
def transDataSpec : ChangeSpec := { name := "transData", fn := fun _ => fun
  | [d1, d2] => { results := [.lit (.bool true)], args := [d1, d2] }
  | _ => none }
def transDataRow : OpenClaim := { program := "ytmjjajhkokdikaagreat", sum := "dddf9f8e10dfcd9926e94faf866320f3b49c7e2412dc164cb78e4d77d45c1ffe", func := "wafer/waferlaw14.TransData", spec := "transData", unfollowed := true, recurses := true, loops := true, apart := false }
def TransDataSaid : Prop := transDataRow.holds Tryz.pinned (OpenSpec.ofChange transDataSpec)

/-- ITS FALSE NEIGHBOUR: 'it returns false'. Refute it at one input. -/
def transDataWrong : ChangeSpec := { name := "transData", fn := fun _ => fun
  | [d1, d2] => { results := [.lit (.bool false)], args := [d1, d2] }
  | _ => none }
def TransDataWrongFalsely : Prop := transDataRow.holds Tryz.pinned (OpenSpec.ofChange transDataWrong)

/-- 'waferlaw14.TransLabels': WHATEVER THE INPUT: true; the input reads as it did. -/
def transLabelsSpec : ChangeSpec := { name := "transLabels", fn := fun _ => fun
  | [d] => { results := [.lit (.bool true)], args := [d] }
  | _ => none }
def transLabelsRow : OpenClaim := { program := "ytmjjajhkokdikaagreat", sum := "dddf9f8e10dfcd9926e94faf866320f3b49c7e2412dc164cb78e4d77d45c1ffe", func := "wafer/waferlaw14.TransLabels", spec := "transLabels", unfollowed := true, recurses := true, loops := true, apart := false }
def TransLabelsSaid : Prop := transLabelsRow.holds Tryz.pinned (OpenSpec.ofChange transLabelsSpec)

/-- ITS FALSE NEIGHBOUR: 'it returns false'. Refute it at one input. -/
def transLabelsWrong : ChangeSpec := { name := "transLabels", fn := fun _ => fun
  | [d] => { results := [.lit (.bool false)], args := [d] }
  | _ => none }
def TransLabelsWrongFalsely : Prop := transLabelsRow.holds Tryz.pinned (OpenSpec.ofChange transLabelsWrong)

/-- 'waferlaw14.TransFree': WHATEVER THE INPUT: true; the input reads as it did. -/
def transFreeSpec : ChangeSpec := { name := "transFree", fn := fun _ => fun
  | [d1, d2, d3] => { results := [.lit (.bool true)], args := [d1, d2, d3] }
  | _ => none }
def transFreeRow : OpenClaim := { program := "ytmjjajhkokdikaagreat", sum := "dddf9f8e10dfcd9926e94faf866320f3b49c7e2412dc164cb78e4d77d45c1ffe", func := "wafer/waferlaw14.TransFree", spec := "transFree", unfollowed := true, recurses := true, loops := true, apart := false }
def TransFreeSaid : Prop := transFreeRow.holds Tryz.pinned (OpenSpec.ofChange transFreeSpec)

/-- ITS FALSE NEIGHBOUR: 'it returns false'. Refute it at one input. -/
def transFreeWrong : ChangeSpec := { name := "transFree", fn := fun _ => fun
  | [d1, d2, d3] => { results := [.lit (.bool false)], args := [d1, d2, d3] }
  | _ => none }
def TransFreeWrongFalsely : Prop := transFreeRow.holds Tryz.pinned (OpenSpec.ofChange transFreeWrong)

/-- 'waferlaw14.TransUnlike': WHATEVER THE INPUT: true; the input reads as it did. -/
def transUnlikeSpec : ChangeSpec := { name := "transUnlike", fn := fun _ => fun
  | [d1, d2] => { results := [.lit (.bool true)], args := [d1, d2] }
  | _ => none }
def transUnlikeRow : OpenClaim := { program := "ytmjjajhkokdikaagreat", sum := "dddf9f8e10dfcd9926e94faf866320f3b49c7e2412dc164cb78e4d77d45c1ffe", func := "wafer/waferlaw14.TransUnlike", spec := "transUnlike", unfollowed := true, recurses := true, loops := true, apart := false }
def TransUnlikeSaid : Prop := transUnlikeRow.holds Tryz.pinned (OpenSpec.ofChange transUnlikeSpec)

/-- ITS FALSE NEIGHBOUR: 'it returns false'. Refute it at one input. -/
def transUnlikeWrong : ChangeSpec := { name := "transUnlike", fn := fun _ => fun
  | [d1, d2] => { results := [.lit (.bool false)], args := [d1, d2] }
  | _ => none }
def TransUnlikeWrongFalsely : Prop := transUnlikeRow.holds Tryz.pinned (OpenSpec.ofChange transUnlikeWrong)

/-- 'waferlaw14.TransPutting': WHATEVER THE INPUT: true; the input reads as it did. -/
def transPuttingSpec : ChangeSpec := { name := "transPutting", fn := fun _ => fun
  | [d1, d2, d3] => { results := [.lit (.bool true)], args := [d1, d2, d3] }
  | _ => none }
def transPuttingRow : OpenClaim := { program := "ytmjjajhkokdikaagreat", sum := "dddf9f8e10dfcd9926e94faf866320f3b49c7e2412dc164cb78e4d77d45c1ffe", func := "wafer/waferlaw14.TransPutting", spec := "transPutting", unfollowed := true, recurses := true, loops := true, apart := false }
def TransPuttingSaid : Prop := transPuttingRow.holds Tryz.pinned (OpenSpec.ofChange transPuttingSpec)

/-- ITS FALSE NEIGHBOUR: 'it returns false'. Refute it at one input. -/
def transPuttingWrong : ChangeSpec := { name := "transPutting", fn := fun _ => fun
  | [d1, d2, d3] => { results := [.lit (.bool false)], args := [d1, d2, d3] }
  | _ => none }
def TransPuttingWrongFalsely : Prop := transPuttingRow.holds Tryz.pinned (OpenSpec.ofChange transPuttingWrong)

/- THE SECOND FORM. 'bulk': how many values and letters a reading holds, each counted each time it is reached (what is shared counts as often as it is met; a slice's spare places count too). A statement '..UptoSaid' is the law's where the arguments, and the package variables that the reading takes, are together of bulk at most 1048576: NARROWER than '..Said'. Prove '..Said' where nothing that the law and all that it calls make is longer than what came in: it says more and counts as full. Else prove '..UptoSaid'. A law counts once. -/
mutual
def uptoBulk {H : Type} : DataW H → Nat
  | .lit (.string bytes) => bytes.length + 1
  | .lit _ => 1
  | .nil => 1
  | .ptr d => uptoBulk d + 1
  | .slice elems spare => uptoBulkAll elems + uptoBulkAll spare + 1
  | .agg parts => uptoBulkAll parts + 1
  | .iface _ d => uptoBulk d + 1
  | .map entries => uptoBulkEntries entries + 1
  | .held _ => 1
def uptoBulkAll {H : Type} : List (DataW H) → Nat
  | [] => 0
  | d :: r => uptoBulk d + uptoBulkAll r
def uptoBulkEntries {H : Type} : List (Lit × DataW H) → Nat
  | [] => 0
  | x :: r => uptoBulkEntry x + uptoBulkEntries r
def uptoBulkEntry {H : Type} : Lit × DataW H → Nat
  | (.string bytes, d) => bytes.length + uptoBulk d + 1
  | (_, d) => uptoBulk d + 1
 end
def uptoSmall : (H : Type) → List (DataW H) → Bool := fun _ ds => decide (uptoBulkAll ds ≤ 1048576)
def OpenSpec.upto (s : _root_.Go.ChangeSpec) : _root_.Go.OpenSpec := { _root_.Go.OpenSpec.ofChange s with cond := some uptoSmall }

/-- 'waferlaw14.TransTypes', WHERE WHAT IT READS IS OF BULK AT MOST 1048576: true; the input reads as it did. -/
def transTypesUptoRow : OpenClaim := { program := "ytmjjajhkokdikaagreat", sum := "dddf9f8e10dfcd9926e94faf866320f3b49c7e2412dc164cb78e4d77d45c1ffe", func := "wafer/waferlaw14.TransTypes", spec := "transTypes", unfollowed := true, recurses := true, loops := true, apart := false, narrowed := true }
def TransTypesUptoSaid : Prop := transTypesUptoRow.holds Tryz.pinned (OpenSpec.upto transTypesSpec)

/-- 'waferlaw14.TransData', WHERE WHAT IT READS IS OF BULK AT MOST 1048576: true; the input reads as it did. -/
def transDataUptoRow : OpenClaim := { program := "ytmjjajhkokdikaagreat", sum := "dddf9f8e10dfcd9926e94faf866320f3b49c7e2412dc164cb78e4d77d45c1ffe", func := "wafer/waferlaw14.TransData", spec := "transData", unfollowed := true, recurses := true, loops := true, apart := false, narrowed := true }
def TransDataUptoSaid : Prop := transDataUptoRow.holds Tryz.pinned (OpenSpec.upto transDataSpec)

/-- 'waferlaw14.TransLabels', WHERE WHAT IT READS IS OF BULK AT MOST 1048576: true; the input reads as it did. -/
def transLabelsUptoRow : OpenClaim := { program := "ytmjjajhkokdikaagreat", sum := "dddf9f8e10dfcd9926e94faf866320f3b49c7e2412dc164cb78e4d77d45c1ffe", func := "wafer/waferlaw14.TransLabels", spec := "transLabels", unfollowed := true, recurses := true, loops := true, apart := false, narrowed := true }
def TransLabelsUptoSaid : Prop := transLabelsUptoRow.holds Tryz.pinned (OpenSpec.upto transLabelsSpec)

/-- 'waferlaw14.TransFree', WHERE WHAT IT READS IS OF BULK AT MOST 1048576: true; the input reads as it did. -/
def transFreeUptoRow : OpenClaim := { program := "ytmjjajhkokdikaagreat", sum := "dddf9f8e10dfcd9926e94faf866320f3b49c7e2412dc164cb78e4d77d45c1ffe", func := "wafer/waferlaw14.TransFree", spec := "transFree", unfollowed := true, recurses := true, loops := true, apart := false, narrowed := true }
def TransFreeUptoSaid : Prop := transFreeUptoRow.holds Tryz.pinned (OpenSpec.upto transFreeSpec)

/-- 'waferlaw14.TransUnlike', WHERE WHAT IT READS IS OF BULK AT MOST 1048576: true; the input reads as it did. -/
def transUnlikeUptoRow : OpenClaim := { program := "ytmjjajhkokdikaagreat", sum := "dddf9f8e10dfcd9926e94faf866320f3b49c7e2412dc164cb78e4d77d45c1ffe", func := "wafer/waferlaw14.TransUnlike", spec := "transUnlike", unfollowed := true, recurses := true, loops := true, apart := false, narrowed := true }
def TransUnlikeUptoSaid : Prop := transUnlikeUptoRow.holds Tryz.pinned (OpenSpec.upto transUnlikeSpec)

/-- 'waferlaw14.TransPutting', WHERE WHAT IT READS IS OF BULK AT MOST 1048576: true; the input reads as it did. -/
def transPuttingUptoRow : OpenClaim := { program := "ytmjjajhkokdikaagreat", sum := "dddf9f8e10dfcd9926e94faf866320f3b49c7e2412dc164cb78e4d77d45c1ffe", func := "wafer/waferlaw14.TransPutting", spec := "transPutting", unfollowed := true, recurses := true, loops := true, apart := false, narrowed := true }
def TransPuttingUptoSaid : Prop := transPuttingUptoRow.holds Tryz.pinned (OpenSpec.upto transPuttingSpec)

end Rows
end Go.Proofs.YtmjjajhkokdikaaGreat
