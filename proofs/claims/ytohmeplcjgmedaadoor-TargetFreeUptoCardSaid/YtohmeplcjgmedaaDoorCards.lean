/-
  DERIVED. GIVEN WITH THE SEED: THE CARDS: each row of YtohmeplcjgmedaaDoorRows.lean that lists a variable, with what it lists TIED to the program's text (the seventh form; the later family's looks); each row that meets fmt, with fmt's text TOLD by the authors' own Lean function (tested against real Go, not proved from fmt's source: count such statements apart). THE CARD IS WHAT COUNTS. Prove the row's statement (the work); the ties are given (YtohmeplcjgmedaaDoorTie.lean); close each card by the builder's one call (the guide's Derived/Test/ToyasCard.lean, 'card_holds'). Laid BY PROGRAM, IN A SANDBOX (cutbox-door.mjs). By AI agents, Wed Nov 11 2026. No macro, syntax, notation, axiom, sorry.
-/
import Derived.Test.YtohmeplcjgmedaaDoorRows
import GoSem.ClaimSeven
namespace Go.Proofs.YtohmeplcjgmedaaDoor
namespace Rows

/-- THE TIED CARD OF 'waferlaw09.TargetFree'. -/
def targetFreeCard : Claim7 := { stood := { row := targetFreeRow, standIns := [], harness := (true, "6701829b71554b990396caf87077597519629ec44e0547c86326190fb9fae5b5"), looks := false }, kinds := [], alts := [], laidByText := true, laidKinds := [.data, .data, .data], laidTests := true, laidLooks := .later }
def TargetFreeCardSaid : Prop := Claim7.holds Tryd.pinned (.plain (OpenSpec.ofChange targetFreeSpec)) targetFreeCard

/-- THE TIED CARD OF 'waferlaw09.TargetTwice'. -/
def targetTwiceCard : Claim7 := { stood := { row := targetTwiceRow, standIns := [], harness := (true, "6701829b71554b990396caf87077597519629ec44e0547c86326190fb9fae5b5"), looks := false }, kinds := [], alts := [], laidByText := true, laidKinds := [.data, .data, .data], laidTests := true, laidLooks := .later }
def TargetTwiceCardSaid : Prop := Claim7.holds Tryd.pinned (.plain (OpenSpec.ofChange targetTwiceSpec)) targetTwiceCard

/-- THE TIED CARD OF 'waferlaw09.TargetSizes'. -/
def targetSizesCard : Claim7 := { stood := { row := targetSizesRow, standIns := [], harness := (true, "6701829b71554b990396caf87077597519629ec44e0547c86326190fb9fae5b5"), looks := false }, kinds := [], alts := [], laidByText := true, laidKinds := [.data, .data, .data], laidTests := true, laidLooks := .later }
def TargetSizesCardSaid : Prop := Claim7.holds Tryd.pinned (.plain (OpenSpec.ofChange targetSizesSpec)) targetSizesCard

/-- THE SECOND FORM's CARD OF 'waferlaw09.TargetFree'. -/
def targetFreeUptoCard : Claim7 := { stood := { row := targetFreeUptoRow, standIns := [], harness := (true, "6701829b71554b990396caf87077597519629ec44e0547c86326190fb9fae5b5"), looks := false }, kinds := [], alts := [], laidByText := true, laidKinds := [.data, .data, .data], laidTests := true, laidLooks := .later }
def TargetFreeUptoCardSaid : Prop := Claim7.holds Tryd.pinned (.plain (OpenSpec.upto targetFreeSpec)) targetFreeUptoCard

/-- THE SECOND FORM's CARD OF 'waferlaw09.TargetTwice'. -/
def targetTwiceUptoCard : Claim7 := { stood := { row := targetTwiceUptoRow, standIns := [], harness := (true, "6701829b71554b990396caf87077597519629ec44e0547c86326190fb9fae5b5"), looks := false }, kinds := [], alts := [], laidByText := true, laidKinds := [.data, .data, .data], laidTests := true, laidLooks := .later }
def TargetTwiceUptoCardSaid : Prop := Claim7.holds Tryd.pinned (.plain (OpenSpec.upto targetTwiceSpec)) targetTwiceUptoCard

/-- THE SECOND FORM's CARD OF 'waferlaw09.TargetSizes'. -/
def targetSizesUptoCard : Claim7 := { stood := { row := targetSizesUptoRow, standIns := [], harness := (true, "6701829b71554b990396caf87077597519629ec44e0547c86326190fb9fae5b5"), looks := false }, kinds := [], alts := [], laidByText := true, laidKinds := [.data, .data, .data], laidTests := true, laidLooks := .later }
def TargetSizesUptoCardSaid : Prop := Claim7.holds Tryd.pinned (.plain (OpenSpec.upto targetSizesSpec)) targetSizesUptoCard
end Rows
end Go.Proofs.YtohmeplcjgmedaaDoor
