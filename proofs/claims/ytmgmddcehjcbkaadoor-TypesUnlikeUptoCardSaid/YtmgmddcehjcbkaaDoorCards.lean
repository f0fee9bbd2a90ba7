/-
  DERIVED. GIVEN WITH THE SEED: THE CARDS: each row of YtmgmddcehjcbkaaDoorRows.lean that lists a variable, with what it lists TIED to the program's text (the seventh form; the later family's looks); each row that meets fmt, with fmt's text TOLD by the authors' own Lean function (tested against real Go, not proved from fmt's source: count such statements apart). THE CARD IS WHAT COUNTS. Prove the row's statement (the work); the ties are given (YtmgmddcehjcbkaaDoorTie.lean); close each card by the builder's one call (the guide's Derived/Test/ToyasCard.lean, 'card_holds'). Laid BY PROGRAM, IN A SANDBOX (cutbox-door.mjs). By AI agents, Wed Nov 11 2026. No macro, syntax, notation, axiom, sorry.
-/
import Derived.Test.YtmgmddcehjcbkaaDoorRows
import GoSem.ClaimSeven
namespace Go.Proofs.YtmgmddcehjcbkaaDoor
namespace Rows

/-- THE TIED CARD OF 'waferlaw08.TypesTwo'. -/
def typesTwoCard : Claim7 := { stood := { row := typesTwoRow, standIns := [], harness := (true, "d6b31f445c48971ef7c5012183bf026433b67c976c83dc3680df5ae8896b6e95"), looks := false }, kinds := [], alts := [], laidByText := true, laidKinds := [.data, .data, .data], laidTests := true, laidLooks := .later }
def TypesTwoCardSaid : Prop := Claim7.holds Tryd.pinned (.plain (OpenSpec.ofChange typesTwoSpec)) typesTwoCard

/-- THE TIED CARD OF 'waferlaw08.TypesReplaces'. -/
def typesReplacesCard : Claim7 := { stood := { row := typesReplacesRow, standIns := [], harness := (true, "d6b31f445c48971ef7c5012183bf026433b67c976c83dc3680df5ae8896b6e95"), looks := false }, kinds := [], alts := [], laidByText := true, laidKinds := [.data, .data, .data], laidTests := true, laidLooks := .later }
def TypesReplacesCardSaid : Prop := Claim7.holds Tryd.pinned (.plain (OpenSpec.ofChange typesReplacesSpec)) typesReplacesCard

/-- THE TIED CARD OF 'waferlaw08.TypesOrder'. -/
def typesOrderCard : Claim7 := { stood := { row := typesOrderRow, standIns := [], harness := (true, "d6b31f445c48971ef7c5012183bf026433b67c976c83dc3680df5ae8896b6e95"), looks := false }, kinds := [], alts := [], laidByText := true, laidKinds := [.data, .data, .data], laidTests := true, laidLooks := .later }
def TypesOrderCardSaid : Prop := Claim7.holds Tryd.pinned (.plain (OpenSpec.ofChange typesOrderSpec)) typesOrderCard

/-- THE TIED CARD OF 'waferlaw08.TypesUnlike'. -/
def typesUnlikeCard : Claim7 := { stood := { row := typesUnlikeRow, standIns := [], harness := (true, "d6b31f445c48971ef7c5012183bf026433b67c976c83dc3680df5ae8896b6e95"), looks := false }, kinds := [], alts := [], laidByText := true, laidKinds := [.data, .data, .data], laidTests := true, laidLooks := .later }
def TypesUnlikeCardSaid : Prop := Claim7.holds Tryd.pinned (.plain (OpenSpec.ofChange typesUnlikeSpec)) typesUnlikeCard

/-- THE TIED CARD OF 'waferlaw08.TypesNodes'. -/
def typesNodesCard : Claim7 := { stood := { row := typesNodesRow, standIns := [], harness := (true, "d6b31f445c48971ef7c5012183bf026433b67c976c83dc3680df5ae8896b6e95"), looks := false }, kinds := [], alts := [], laidByText := true, laidKinds := [.data, .data, .data], laidTests := true, laidLooks := .later }
def TypesNodesCardSaid : Prop := Claim7.holds Tryd.pinned (.plain (OpenSpec.ofChange typesNodesSpec)) typesNodesCard

/-- THE TIED CARD OF 'waferlaw08.TypesTwice'. -/
def typesTwiceCard : Claim7 := { stood := { row := typesTwiceRow, standIns := [], harness := (true, "d6b31f445c48971ef7c5012183bf026433b67c976c83dc3680df5ae8896b6e95"), looks := false }, kinds := [], alts := [], laidByText := true, laidKinds := [.data, .data, .data], laidTests := true, laidLooks := .later }
def TypesTwiceCardSaid : Prop := Claim7.holds Tryd.pinned (.plain (OpenSpec.ofChange typesTwiceSpec)) typesTwiceCard

/-- THE TIED CARD OF 'waferlaw08.TypesPutting'. -/
def typesPuttingCard : Claim7 := { stood := { row := typesPuttingRow, standIns := [], harness := (true, "d6b31f445c48971ef7c5012183bf026433b67c976c83dc3680df5ae8896b6e95"), looks := false }, kinds := [], alts := [], laidByText := true, laidKinds := [.data, .data, .data], laidTests := true, laidLooks := .later }
def TypesPuttingCardSaid : Prop := Claim7.holds Tryd.pinned (.plain (OpenSpec.ofChange typesPuttingSpec)) typesPuttingCard

/-- THE TIED CARD OF 'waferlaw08.TypesMeasures'. -/
def typesMeasuresCard : Claim7 := { stood := { row := typesMeasuresRow, standIns := [], harness := (true, "d6b31f445c48971ef7c5012183bf026433b67c976c83dc3680df5ae8896b6e95"), looks := false }, kinds := [], alts := [], laidByText := true, laidKinds := [.data, .data, .data], laidTests := true, laidLooks := .later }
def TypesMeasuresCardSaid : Prop := Claim7.holds Tryd.pinned (.plain (OpenSpec.ofChange typesMeasuresSpec)) typesMeasuresCard

/-- THE SECOND FORM's CARD OF 'waferlaw08.TypesTwo'. -/
def typesTwoUptoCard : Claim7 := { stood := { row := typesTwoUptoRow, standIns := [], harness := (true, "d6b31f445c48971ef7c5012183bf026433b67c976c83dc3680df5ae8896b6e95"), looks := false }, kinds := [], alts := [], laidByText := true, laidKinds := [.data, .data, .data], laidTests := true, laidLooks := .later }
def TypesTwoUptoCardSaid : Prop := Claim7.holds Tryd.pinned (.plain (OpenSpec.upto typesTwoSpec)) typesTwoUptoCard

/-- THE SECOND FORM's CARD OF 'waferlaw08.TypesReplaces'. -/
def typesReplacesUptoCard : Claim7 := { stood := { row := typesReplacesUptoRow, standIns := [], harness := (true, "d6b31f445c48971ef7c5012183bf026433b67c976c83dc3680df5ae8896b6e95"), looks := false }, kinds := [], alts := [], laidByText := true, laidKinds := [.data, .data, .data], laidTests := true, laidLooks := .later }
def TypesReplacesUptoCardSaid : Prop := Claim7.holds Tryd.pinned (.plain (OpenSpec.upto typesReplacesSpec)) typesReplacesUptoCard

/-- THE SECOND FORM's CARD OF 'waferlaw08.TypesOrder'. -/
def typesOrderUptoCard : Claim7 := { stood := { row := typesOrderUptoRow, standIns := [], harness := (true, "d6b31f445c48971ef7c5012183bf026433b67c976c83dc3680df5ae8896b6e95"), looks := false }, kinds := [], alts := [], laidByText := true, laidKinds := [.data, .data, .data], laidTests := true, laidLooks := .later }
def TypesOrderUptoCardSaid : Prop := Claim7.holds Tryd.pinned (.plain (OpenSpec.upto typesOrderSpec)) typesOrderUptoCard

/-- THE SECOND FORM's CARD OF 'waferlaw08.TypesUnlike'. -/
def typesUnlikeUptoCard : Claim7 := { stood := { row := typesUnlikeUptoRow, standIns := [], harness := (true, "d6b31f445c48971ef7c5012183bf026433b67c976c83dc3680df5ae8896b6e95"), looks := false }, kinds := [], alts := [], laidByText := true, laidKinds := [.data, .data, .data], laidTests := true, laidLooks := .later }
def TypesUnlikeUptoCardSaid : Prop := Claim7.holds Tryd.pinned (.plain (OpenSpec.upto typesUnlikeSpec)) typesUnlikeUptoCard

/-- THE SECOND FORM's CARD OF 'waferlaw08.TypesNodes'. -/
def typesNodesUptoCard : Claim7 := { stood := { row := typesNodesUptoRow, standIns := [], harness := (true, "d6b31f445c48971ef7c5012183bf026433b67c976c83dc3680df5ae8896b6e95"), looks := false }, kinds := [], alts := [], laidByText := true, laidKinds := [.data, .data, .data], laidTests := true, laidLooks := .later }
def TypesNodesUptoCardSaid : Prop := Claim7.holds Tryd.pinned (.plain (OpenSpec.upto typesNodesSpec)) typesNodesUptoCard

/-- THE SECOND FORM's CARD OF 'waferlaw08.TypesTwice'. -/
def typesTwiceUptoCard : Claim7 := { stood := { row := typesTwiceUptoRow, standIns := [], harness := (true, "d6b31f445c48971ef7c5012183bf026433b67c976c83dc3680df5ae8896b6e95"), looks := false }, kinds := [], alts := [], laidByText := true, laidKinds := [.data, .data, .data], laidTests := true, laidLooks := .later }
def TypesTwiceUptoCardSaid : Prop := Claim7.holds Tryd.pinned (.plain (OpenSpec.upto typesTwiceSpec)) typesTwiceUptoCard

/-- THE SECOND FORM's CARD OF 'waferlaw08.TypesPutting'. -/
def typesPuttingUptoCard : Claim7 := { stood := { row := typesPuttingUptoRow, standIns := [], harness := (true, "d6b31f445c48971ef7c5012183bf026433b67c976c83dc3680df5ae8896b6e95"), looks := false }, kinds := [], alts := [], laidByText := true, laidKinds := [.data, .data, .data], laidTests := true, laidLooks := .later }
def TypesPuttingUptoCardSaid : Prop := Claim7.holds Tryd.pinned (.plain (OpenSpec.upto typesPuttingSpec)) typesPuttingUptoCard

/-- THE SECOND FORM's CARD OF 'waferlaw08.TypesMeasures'. -/
def typesMeasuresUptoCard : Claim7 := { stood := { row := typesMeasuresUptoRow, standIns := [], harness := (true, "d6b31f445c48971ef7c5012183bf026433b67c976c83dc3680df5ae8896b6e95"), looks := false }, kinds := [], alts := [], laidByText := true, laidKinds := [.data, .data, .data], laidTests := true, laidLooks := .later }
def TypesMeasuresUptoCardSaid : Prop := Claim7.holds Tryd.pinned (.plain (OpenSpec.upto typesMeasuresSpec)) typesMeasuresUptoCard
end Rows
end Go.Proofs.YtmgmddcehjcbkaaDoor
