/-
  DERIVED. GIVEN WITH THE SEED: THE CARDS: each row of YtlohhlbbkliehaaGreatDoorRows.lean that lists a variable, with what it lists TIED to the program's text (the seventh form; the later family's looks); each row that meets fmt, with fmt's text TOLD by the authors' own Lean function (tested against real Go, not proved from fmt's source: count such statements apart). THE CARD IS WHAT COUNTS. Prove the row's statement (the work); the ties are given (YtlohhlbbkliehaaGreatDoorTie.lean); close each card by the builder's one call (the guide's Derived/Test/ToyasCard.lean, 'card_holds'). Laid BY PROGRAM, IN A SANDBOX (cutbox-door.mjs). By AI agents, Wed Nov 11 2026. No macro, syntax, notation, axiom, sorry.
-/
import Derived.Test.YtlohhlbbkliehaaGreatDoorRows
import GoSem.ClaimSeven
namespace Go.Proofs.YtlohhlbbkliehaaGreatDoor
namespace Rows

/-- THE TIED CARD OF 'linchpinlaw09.IsaTells'. -/
def isaTellsCard : Claim7 := { stood := { row := isaTellsRow, standIns := [], harness := (true, "d56da958335b5ca44850e1d961d2a4dcac9906d5321c0d25b7378774b7d3c622"), looks := true }, kinds := [], alts := [], laidByText := true, laidKinds := [.data, .data, .data, .data, .sentinel, .sentinel, .listed, .data, .widerDeep, .data, .pinned], laidTests := true, laidLooks := .later }
def IsaTellsCardSaid : Prop := Claim7.holds Tryz.pinned (.plain (OpenSpec.ofChange isaTellsSpec)) isaTellsCard

/-- THE TIED CARD OF 'linchpinlaw09.IsaBack'. -/
def isaBackCard : Claim7 := { stood := { row := isaBackRow, standIns := [], harness := (true, "d56da958335b5ca44850e1d961d2a4dcac9906d5321c0d25b7378774b7d3c622"), looks := true }, kinds := [], alts := [], laidByText := true, laidKinds := [.data, .data, .data, .data, .sentinel, .sentinel, .listed, .data, .widerDeep, .data, .pinned], laidTests := true, laidLooks := .later }
def IsaBackCardSaid : Prop := Claim7.holds Tryz.pinned (.plain (OpenSpec.ofChange isaBackSpec)) isaBackCard

/-- THE TIED CARD OF 'linchpinlaw09.IsaDecodes'. -/
def isaDecodesCard : Claim7 := { stood := { row := isaDecodesRow, standIns := [], harness := (true, "d56da958335b5ca44850e1d961d2a4dcac9906d5321c0d25b7378774b7d3c622"), looks := true }, kinds := [], alts := [], laidByText := true, laidKinds := [.data, .data, .data, .data, .sentinel, .sentinel, .listed, .data, .widerDeep, .data, .pinned], laidTests := true, laidLooks := .later }
def IsaDecodesCardSaid : Prop := Claim7.holds Tryz.pinned (.plain (OpenSpec.ofChange isaDecodesSpec)) isaDecodesCard

/-- THE TIED CARD OF 'linchpinlaw09.IsaParses'. -/
def isaParsesCard : Claim7 := { stood := { row := isaParsesRow, standIns := [], harness := (true, "d56da958335b5ca44850e1d961d2a4dcac9906d5321c0d25b7378774b7d3c622"), looks := true }, kinds := [], alts := [], laidByText := true, laidKinds := [.data, .data, .data, .data, .sentinel, .sentinel, .listed, .data, .widerDeep, .data, .pinned], laidTests := true, laidLooks := .later }
def IsaParsesCardSaid : Prop := Claim7.holds Tryz.pinned (.plain (OpenSpec.ofChange isaParsesSpec)) isaParsesCard

/-- THE TIED CARD OF 'linchpinlaw09.IsaUses'. -/
def isaUsesCard : Claim7 := { stood := { row := isaUsesRow, standIns := [], harness := (true, "d56da958335b5ca44850e1d961d2a4dcac9906d5321c0d25b7378774b7d3c622"), looks := true }, kinds := [], alts := [], laidByText := true, laidKinds := [.data, .data, .data, .data, .sentinel, .sentinel, .listed, .data, .widerDeep, .data, .pinned], laidTests := true, laidLooks := .later }
def IsaUsesCardSaid : Prop := Claim7.holds Tryz.pinned (.plain (OpenSpec.ofChange isaUsesSpec)) isaUsesCard

/-- THE SECOND FORM's CARD OF 'linchpinlaw09.IsaTells'. -/
def isaTellsUptoCard : Claim7 := { stood := { row := isaTellsUptoRow, standIns := [], harness := (true, "d56da958335b5ca44850e1d961d2a4dcac9906d5321c0d25b7378774b7d3c622"), looks := true }, kinds := [], alts := [], laidByText := true, laidKinds := [.data, .data, .data, .data, .sentinel, .sentinel, .listed, .data, .widerDeep, .data, .pinned], laidTests := true, laidLooks := .later }
def IsaTellsUptoCardSaid : Prop := Claim7.holds Tryz.pinned (.plain (OpenSpec.upto isaTellsSpec)) isaTellsUptoCard

/-- THE SECOND FORM's CARD OF 'linchpinlaw09.IsaBack'. -/
def isaBackUptoCard : Claim7 := { stood := { row := isaBackUptoRow, standIns := [], harness := (true, "d56da958335b5ca44850e1d961d2a4dcac9906d5321c0d25b7378774b7d3c622"), looks := true }, kinds := [], alts := [], laidByText := true, laidKinds := [.data, .data, .data, .data, .sentinel, .sentinel, .listed, .data, .widerDeep, .data, .pinned], laidTests := true, laidLooks := .later }
def IsaBackUptoCardSaid : Prop := Claim7.holds Tryz.pinned (.plain (OpenSpec.upto isaBackSpec)) isaBackUptoCard

/-- THE SECOND FORM's CARD OF 'linchpinlaw09.IsaDecodes'. -/
def isaDecodesUptoCard : Claim7 := { stood := { row := isaDecodesUptoRow, standIns := [], harness := (true, "d56da958335b5ca44850e1d961d2a4dcac9906d5321c0d25b7378774b7d3c622"), looks := true }, kinds := [], alts := [], laidByText := true, laidKinds := [.data, .data, .data, .data, .sentinel, .sentinel, .listed, .data, .widerDeep, .data, .pinned], laidTests := true, laidLooks := .later }
def IsaDecodesUptoCardSaid : Prop := Claim7.holds Tryz.pinned (.plain (OpenSpec.upto isaDecodesSpec)) isaDecodesUptoCard

/-- THE SECOND FORM's CARD OF 'linchpinlaw09.IsaParses'. -/
def isaParsesUptoCard : Claim7 := { stood := { row := isaParsesUptoRow, standIns := [], harness := (true, "d56da958335b5ca44850e1d961d2a4dcac9906d5321c0d25b7378774b7d3c622"), looks := true }, kinds := [], alts := [], laidByText := true, laidKinds := [.data, .data, .data, .data, .sentinel, .sentinel, .listed, .data, .widerDeep, .data, .pinned], laidTests := true, laidLooks := .later }
def IsaParsesUptoCardSaid : Prop := Claim7.holds Tryz.pinned (.plain (OpenSpec.upto isaParsesSpec)) isaParsesUptoCard

/-- THE SECOND FORM's CARD OF 'linchpinlaw09.IsaUses'. -/
def isaUsesUptoCard : Claim7 := { stood := { row := isaUsesUptoRow, standIns := [], harness := (true, "d56da958335b5ca44850e1d961d2a4dcac9906d5321c0d25b7378774b7d3c622"), looks := true }, kinds := [], alts := [], laidByText := true, laidKinds := [.data, .data, .data, .data, .sentinel, .sentinel, .listed, .data, .widerDeep, .data, .pinned], laidTests := true, laidLooks := .later }
def IsaUsesUptoCardSaid : Prop := Claim7.holds Tryz.pinned (.plain (OpenSpec.upto isaUsesSpec)) isaUsesUptoCard
end Rows
end Go.Proofs.YtlohhlbbkliehaaGreatDoor
