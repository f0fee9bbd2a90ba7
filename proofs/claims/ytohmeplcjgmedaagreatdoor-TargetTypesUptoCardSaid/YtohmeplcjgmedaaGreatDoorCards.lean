/-
  DERIVED. GIVEN WITH THE SEED: THE CARDS: each row of YtohmeplcjgmedaaGreatDoorRows.lean that lists a variable, with what it lists TIED to the program's text (the seventh form; the later family's looks); each row that meets fmt, with fmt's text TOLD by the authors' own Lean function (tested against real Go, not proved from fmt's source: count such statements apart). THE CARD IS WHAT COUNTS. Prove the row's statement (the work); the ties are given (YtohmeplcjgmedaaGreatDoorTie.lean); close each card by the builder's one call (the guide's Derived/Test/ToyasCard.lean, 'card_holds'). Laid BY PROGRAM, IN A SANDBOX (cutbox-door.mjs). By AI agents, Wed Nov 11 2026. No macro, syntax, notation, axiom, sorry.
-/
import Derived.Test.YtohmeplcjgmedaaGreatDoorRows
import GoSem.ClaimSeven
namespace Go.Proofs.YtohmeplcjgmedaaGreatDoor
namespace Rows

/-- THE TIED CARD OF 'waferlaw09.TargetTypes'. -/
def targetTypesCard : Claim7 := { stood := { row := targetTypesRow, standIns := [], harness := (true, "bc679cb16e5525b32f9ead80bd91c7aa70adf8b83200736f8d9c11b27ac0cc8a"), looks := false }, kinds := [], alts := [], laidByText := true, laidKinds := [.data, .data, .data], laidTests := true, laidLooks := .later }
def TargetTypesCardSaid : Prop := Claim7.holds Tryz.pinned (.plain (OpenSpec.ofChange targetTypesSpec)) targetTypesCard

/-- THE TIED CARD OF 'waferlaw09.TargetTexts'. -/
def targetTextsCard : Claim7 := { stood := { row := targetTextsRow, standIns := [], harness := (true, "bc679cb16e5525b32f9ead80bd91c7aa70adf8b83200736f8d9c11b27ac0cc8a"), looks := false }, kinds := [], alts := [], laidByText := true, laidKinds := [.data, .data, .data, .data, .pinned, .pinned, .pinned, .pinned, .pinned, .pinned], laidTests := true, laidLooks := .later }
def TargetTextsCardSaid : Prop := Claim7.holds Tryz.pinned (.plain (OpenSpec.ofChange targetTextsSpec)) targetTextsCard

/-- THE SECOND FORM's CARD OF 'waferlaw09.TargetTypes'. -/
def targetTypesUptoCard : Claim7 := { stood := { row := targetTypesUptoRow, standIns := [], harness := (true, "bc679cb16e5525b32f9ead80bd91c7aa70adf8b83200736f8d9c11b27ac0cc8a"), looks := false }, kinds := [], alts := [], laidByText := true, laidKinds := [.data, .data, .data], laidTests := true, laidLooks := .later }
def TargetTypesUptoCardSaid : Prop := Claim7.holds Tryz.pinned (.plain (OpenSpec.upto targetTypesSpec)) targetTypesUptoCard

/-- THE SECOND FORM's CARD OF 'waferlaw09.TargetTexts'. -/
def targetTextsUptoCard : Claim7 := { stood := { row := targetTextsUptoRow, standIns := [], harness := (true, "bc679cb16e5525b32f9ead80bd91c7aa70adf8b83200736f8d9c11b27ac0cc8a"), looks := false }, kinds := [], alts := [], laidByText := true, laidKinds := [.data, .data, .data, .data, .pinned, .pinned, .pinned, .pinned, .pinned, .pinned], laidTests := true, laidLooks := .later }
def TargetTextsUptoCardSaid : Prop := Claim7.holds Tryz.pinned (.plain (OpenSpec.upto targetTextsSpec)) targetTextsUptoCard
end Rows
end Go.Proofs.YtohmeplcjgmedaaGreatDoor
