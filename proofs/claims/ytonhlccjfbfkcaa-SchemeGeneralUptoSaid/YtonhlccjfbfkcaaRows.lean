/-
  NARROWER THAN 'FOR EVERY INPUT', by the rows' own cells (each row's printed sentence says how): SchemeKept: loops · SchemeMatches: loops · SchemeBack: loops · SchemeOrder: loops · SchemeInstances: loops · SchemeGeneral: loops.
  DERIVED. THE GIVEN ROWS OF THIS SEAT. 6 by the template 'for every input the law returns true; each argument reads behind the call as it read before'; 0 by the template 'total and deterministic' (their statements: YtonhlccjfbfkcaaTotals.lean).
  GIVEN WITH THE SEED: the statements are not yours to turn. If you find one false, say at which input.
  Laid BY PROGRAM, IN A SANDBOX (cutbox-rows.mjs): the forced cells as the released guide's own fill.sh prints them over the translation 426f530556523b50… (all of the seat's roots in one cut). By AI agents, Wed Nov 11 2026. No macro, syntax, notation, axiom, sorry.
-/
import Derived.Test.YtonhlccjfbfkcaaChecked
import GoSem.Claim
import GoSem.ClaimJoined
import GoSem.ClaimMapViews
import Derived.JoinedTies
import Derived.KernelRfl
namespace Go.Proofs.Ytonhlccjfbfkcaa
/- THE CELL 'sum', in the pinned program and in every row, IS THE sha256 OF THE DUMP (.gsa) THAT YtonhlccjfbfkcaaProg.lean LOADS. Nothing in Lean hashes anything: it is a label: what it is worth is what the hold of that sum in a sandbox is worth. -/
noncomputable def Try.pinned : Pinned := { name := "ytonhlccjfbfkcaa", sum := "426f530556523b50a1340f4330851365a3204b686d4dcb331594eb3f1caf9a75", checked := Try.checked }
namespace Rows
def none {H : Type} : Left H := { results := [], args := [] }

/-- 'waferlaw12.SchemeKept': WHATEVER THE INPUT: true; the input reads as it did. -/
def schemeKeptSpec : ChangeSpec := { name := "schemeKept", fn := fun _ => fun
  | [d1, d2] => { results := [.lit (.bool true)], args := [d1, d2] }
  | _ => none }
def schemeKeptRow : OpenClaim := { program := "ytonhlccjfbfkcaa", sum := "426f530556523b50a1340f4330851365a3204b686d4dcb331594eb3f1caf9a75", func := "wafer/waferlaw12.SchemeKept", spec := "schemeKept", unfollowed := true, recurses := true, loops := true, apart := false }
def SchemeKeptSaid : Prop := schemeKeptRow.holds Try.pinned (OpenSpec.ofChange schemeKeptSpec)

/-- ITS FALSE NEIGHBOUR: 'it returns false'. Refute it at one input. -/
def schemeKeptWrong : ChangeSpec := { name := "schemeKept", fn := fun _ => fun
  | [d1, d2] => { results := [.lit (.bool false)], args := [d1, d2] }
  | _ => none }
def SchemeKeptWrongFalsely : Prop := schemeKeptRow.holds Try.pinned (OpenSpec.ofChange schemeKeptWrong)

/-- 'waferlaw12.SchemeMatches': WHATEVER THE INPUT: true; the input reads as it did. -/
def schemeMatchesSpec : ChangeSpec := { name := "schemeMatches", fn := fun _ => fun
  | [d1, d2] => { results := [.lit (.bool true)], args := [d1, d2] }
  | _ => none }
def schemeMatchesRow : OpenClaim := { program := "ytonhlccjfbfkcaa", sum := "426f530556523b50a1340f4330851365a3204b686d4dcb331594eb3f1caf9a75", func := "wafer/waferlaw12.SchemeMatches", spec := "schemeMatches", unfollowed := true, recurses := true, loops := true, apart := false }
def SchemeMatchesSaid : Prop := schemeMatchesRow.holds Try.pinned (OpenSpec.ofChange schemeMatchesSpec)

/-- ITS FALSE NEIGHBOUR: 'it returns false'. Refute it at one input. -/
def schemeMatchesWrong : ChangeSpec := { name := "schemeMatches", fn := fun _ => fun
  | [d1, d2] => { results := [.lit (.bool false)], args := [d1, d2] }
  | _ => none }
def SchemeMatchesWrongFalsely : Prop := schemeMatchesRow.holds Try.pinned (OpenSpec.ofChange schemeMatchesWrong)

/-- 'waferlaw12.SchemeBack': WHATEVER THE INPUT: true; the input reads as it did. -/
def schemeBackSpec : ChangeSpec := { name := "schemeBack", fn := fun _ => fun
  | [d] => { results := [.lit (.bool true)], args := [d] }
  | _ => none }
def schemeBackRow : OpenClaim := { program := "ytonhlccjfbfkcaa", sum := "426f530556523b50a1340f4330851365a3204b686d4dcb331594eb3f1caf9a75", func := "wafer/waferlaw12.SchemeBack", spec := "schemeBack", unfollowed := true, recurses := true, loops := true, apart := false }
def SchemeBackSaid : Prop := schemeBackRow.holds Try.pinned (OpenSpec.ofChange schemeBackSpec)

/-- ITS FALSE NEIGHBOUR: 'it returns false'. Refute it at one input. -/
def schemeBackWrong : ChangeSpec := { name := "schemeBack", fn := fun _ => fun
  | [d] => { results := [.lit (.bool false)], args := [d] }
  | _ => none }
def SchemeBackWrongFalsely : Prop := schemeBackRow.holds Try.pinned (OpenSpec.ofChange schemeBackWrong)

/-- 'waferlaw12.SchemeOrder': WHATEVER THE INPUT: true; the input reads as it did. -/
def schemeOrderSpec : ChangeSpec := { name := "schemeOrder", fn := fun _ => fun
  | [d1, d2, d3] => { results := [.lit (.bool true)], args := [d1, d2, d3] }
  | _ => none }
def schemeOrderRow : OpenClaim := { program := "ytonhlccjfbfkcaa", sum := "426f530556523b50a1340f4330851365a3204b686d4dcb331594eb3f1caf9a75", func := "wafer/waferlaw12.SchemeOrder", spec := "schemeOrder", unfollowed := true, recurses := true, loops := true, apart := false }
def SchemeOrderSaid : Prop := schemeOrderRow.holds Try.pinned (OpenSpec.ofChange schemeOrderSpec)

/-- ITS FALSE NEIGHBOUR: 'it returns false'. Refute it at one input. -/
def schemeOrderWrong : ChangeSpec := { name := "schemeOrder", fn := fun _ => fun
  | [d1, d2, d3] => { results := [.lit (.bool false)], args := [d1, d2, d3] }
  | _ => none }
def SchemeOrderWrongFalsely : Prop := schemeOrderRow.holds Try.pinned (OpenSpec.ofChange schemeOrderWrong)

/-- 'waferlaw12.SchemeInstances': WHATEVER THE INPUT: true; the input reads as it did. -/
def schemeInstancesSpec : ChangeSpec := { name := "schemeInstances", fn := fun _ => fun
  | [d1, d2, d3] => { results := [.lit (.bool true)], args := [d1, d2, d3] }
  | _ => none }
def schemeInstancesRow : OpenClaim := { program := "ytonhlccjfbfkcaa", sum := "426f530556523b50a1340f4330851365a3204b686d4dcb331594eb3f1caf9a75", func := "wafer/waferlaw12.SchemeInstances", spec := "schemeInstances", unfollowed := true, recurses := true, loops := true, apart := false }
def SchemeInstancesSaid : Prop := schemeInstancesRow.holds Try.pinned (OpenSpec.ofChange schemeInstancesSpec)

/-- ITS FALSE NEIGHBOUR: 'it returns false'. Refute it at one input. -/
def schemeInstancesWrong : ChangeSpec := { name := "schemeInstances", fn := fun _ => fun
  | [d1, d2, d3] => { results := [.lit (.bool false)], args := [d1, d2, d3] }
  | _ => none }
def SchemeInstancesWrongFalsely : Prop := schemeInstancesRow.holds Try.pinned (OpenSpec.ofChange schemeInstancesWrong)

/-- 'waferlaw12.SchemeGeneral': WHATEVER THE INPUT: true; the input reads as it did. -/
def schemeGeneralSpec : ChangeSpec := { name := "schemeGeneral", fn := fun _ => fun
  | [d1, d2, d3, d4, d5] => { results := [.lit (.bool true)], args := [d1, d2, d3, d4, d5] }
  | _ => none }
def schemeGeneralRow : OpenClaim := { program := "ytonhlccjfbfkcaa", sum := "426f530556523b50a1340f4330851365a3204b686d4dcb331594eb3f1caf9a75", func := "wafer/waferlaw12.SchemeGeneral", spec := "schemeGeneral", unfollowed := true, recurses := true, loops := true, apart := false }
def SchemeGeneralSaid : Prop := schemeGeneralRow.holds Try.pinned (OpenSpec.ofChange schemeGeneralSpec)

/-- ITS FALSE NEIGHBOUR: 'it returns false'. Refute it at one input. -/
def schemeGeneralWrong : ChangeSpec := { name := "schemeGeneral", fn := fun _ => fun
  | [d1, d2, d3, d4, d5] => { results := [.lit (.bool false)], args := [d1, d2, d3, d4, d5] }
  | _ => none }
def SchemeGeneralWrongFalsely : Prop := schemeGeneralRow.holds Try.pinned (OpenSpec.ofChange schemeGeneralWrong)

/- THE SECOND FORM. 'bulk': how many values and letters a reading holds, each counted each time it is reached (what is shared counts as often as it is met; a slice's spare places count too). A statement '..UptoSaid' is the law's where the arguments, and the package variables that the reading takes, are together of bulk at most 1048576: NARROWER than '..Said'. Prove '..Said' where nothing that the law and all that it calls make is longer than what came in: it says more and counts as full. Else prove '..UptoSaid'. A law counts once. -/
mutual
def uptoBulk {H : Type} : DataW H → Nat
  | .lit (.string bytes) => bytes.length + 1
  | .lit _ => 1
  | .nil => 1
  | .ptr d => uptoBulk d + 1
  | .slice elems spare => uptoBulkAll elems + uptoBulkAll spare + 1
  | .agg parts => uptoBulkAll parts + 1
  | .iface _ d => uptoBulk d + 1
  | .map entries => uptoBulkEntries entries + 1
  | .held _ => 1
def uptoBulkAll {H : Type} : List (DataW H) → Nat
  | [] => 0
  | d :: r => uptoBulk d + uptoBulkAll r
def uptoBulkEntries {H : Type} : List (Lit × DataW H) → Nat
  | [] => 0
  | x :: r => uptoBulkEntry x + uptoBulkEntries r
def uptoBulkEntry {H : Type} : Lit × DataW H → Nat
  | (.string bytes, d) => bytes.length + uptoBulk d + 1
  | (_, d) => uptoBulk d + 1
 end
def uptoSmall : (H : Type) → List (DataW H) → Bool := fun _ ds => decide (uptoBulkAll ds ≤ 1048576)
def OpenSpec.upto (s : _root_.Go.ChangeSpec) : _root_.Go.OpenSpec := { _root_.Go.OpenSpec.ofChange s with cond := some uptoSmall }

/-- 'waferlaw12.SchemeKept', WHERE WHAT IT READS IS OF BULK AT MOST 1048576: true; the input reads as it did. -/
def schemeKeptUptoRow : OpenClaim := { program := "ytonhlccjfbfkcaa", sum := "426f530556523b50a1340f4330851365a3204b686d4dcb331594eb3f1caf9a75", func := "wafer/waferlaw12.SchemeKept", spec := "schemeKept", unfollowed := true, recurses := true, loops := true, apart := false, narrowed := true }
def SchemeKeptUptoSaid : Prop := schemeKeptUptoRow.holds Try.pinned (OpenSpec.upto schemeKeptSpec)

/-- 'waferlaw12.SchemeMatches', WHERE WHAT IT READS IS OF BULK AT MOST 1048576: true; the input reads as it did. -/
def schemeMatchesUptoRow : OpenClaim := { program := "ytonhlccjfbfkcaa", sum := "426f530556523b50a1340f4330851365a3204b686d4dcb331594eb3f1caf9a75", func := "wafer/waferlaw12.SchemeMatches", spec := "schemeMatches", unfollowed := true, recurses := true, loops := true, apart := false, narrowed := true }
def SchemeMatchesUptoSaid : Prop := schemeMatchesUptoRow.holds Try.pinned (OpenSpec.upto schemeMatchesSpec)

/-- 'waferlaw12.SchemeBack', WHERE WHAT IT READS IS OF BULK AT MOST 1048576: true; the input reads as it did. -/
def schemeBackUptoRow : OpenClaim := { program := "ytonhlccjfbfkcaa", sum := "426f530556523b50a1340f4330851365a3204b686d4dcb331594eb3f1caf9a75", func := "wafer/waferlaw12.SchemeBack", spec := "schemeBack", unfollowed := true, recurses := true, loops := true, apart := false, narrowed := true }
def SchemeBackUptoSaid : Prop := schemeBackUptoRow.holds Try.pinned (OpenSpec.upto schemeBackSpec)

/-- 'waferlaw12.SchemeOrder', WHERE WHAT IT READS IS OF BULK AT MOST 1048576: true; the input reads as it did. -/
def schemeOrderUptoRow : OpenClaim := { program := "ytonhlccjfbfkcaa", sum := "426f530556523b50a1340f4330851365a3204b686d4dcb331594eb3f1caf9a75", func := "wafer/waferlaw12.SchemeOrder", spec := "schemeOrder", unfollowed := true, recurses := true, loops := true, apart := false, narrowed := true }
def SchemeOrderUptoSaid : Prop := schemeOrderUptoRow.holds Try.pinned (OpenSpec.upto schemeOrderSpec)

/-- 'waferlaw12.SchemeInstances', WHERE WHAT IT READS IS OF BULK AT MOST 1048576: true; the input reads as it did. -/
def schemeInstancesUptoRow : OpenClaim := { program := "ytonhlccjfbfkcaa", sum := "426f530556523b50a1340f4330851365a3204b686d4dcb331594eb3f1caf9a75", func := "wafer/waferlaw12.SchemeInstances", spec := "schemeInstances", unfollowed := true, recurses := true, loops := true, apart := false, narrowed := true }
def SchemeInstancesUptoSaid : Prop := schemeInstancesUptoRow.holds Try.pinned (OpenSpec.upto schemeInstancesSpec)

/-- 'waferlaw12.SchemeGeneral', WHERE WHAT IT READS IS OF BULK AT MOST 1048576: true; the input reads as it did. -/
def schemeGeneralUptoRow : OpenClaim := { program := "ytonhlccjfbfkcaa", sum := "426f530556523b50a1340f4330851365a3204b686d4dcb331594eb3f1caf9a75", func := "wafer/waferlaw12.SchemeGeneral", spec := "schemeGeneral", unfollowed := true, recurses := true, loops := true, apart := false, narrowed := true }
def SchemeGeneralUptoSaid : Prop := schemeGeneralUptoRow.holds Try.pinned (OpenSpec.upto schemeGeneralSpec)

end Rows
end Go.Proofs.Ytonhlccjfbfkcaa
