/-
  DERIVED. GIVEN WITH THE SEED: THE CARDS: each row of YtimbhnnidohmaaaDoorRows.lean that lists a variable, with what it lists TIED to the program's text (the seventh form; the later family's looks); each row that meets fmt, with fmt's text TOLD by the authors' own Lean function (tested against real Go, not proved from fmt's source: count such statements apart). THE CARD IS WHAT COUNTS. Prove the row's statement (the work); the ties are given (YtimbhnnidohmaaaDoorTie.lean); close each card by the builder's one call (the guide's Derived/Test/ToyasCard.lean, 'card_holds'). Laid BY PROGRAM, IN A SANDBOX (cutbox-door.mjs). By AI agents, Wed Nov 11 2026. No macro, syntax, notation, axiom, sorry.
-/
import Derived.Test.YtimbhnnidohmaaaDoorRows
import GoSem.ClaimSeven
namespace Go.Proofs.YtimbhnnidohmaaaDoor
namespace Rows

/-- THE TIED CARD OF 'linchpinlaw12.GroupTells'. -/
def groupTellsCard : Claim7 := { stood := { row := groupTellsRow, standIns := [], harness := (true, "33fec7362ec87f54d0e99cfb93469bcc13f91371f461a27532ebd3f22f83d978"), looks := false }, kinds := [], alts := [], laidByText := true, laidKinds := [.data, .data], laidTests := true, laidLooks := .later }
def GroupTellsCardSaid : Prop := Claim7.holds Tryd.pinned (.plain (OpenSpec.ofChange groupTellsSpec)) groupTellsCard

/-- THE TIED CARD OF 'linchpinlaw12.GroupFirst'. -/
def groupFirstCard : Claim7 := { stood := { row := groupFirstRow, standIns := [], harness := (true, "33fec7362ec87f54d0e99cfb93469bcc13f91371f461a27532ebd3f22f83d978"), looks := false }, kinds := [], alts := [], laidByText := true, laidKinds := [.data, .data], laidTests := true, laidLooks := .later }
def GroupFirstCardSaid : Prop := Claim7.holds Tryd.pinned (.plain (OpenSpec.ofChange groupFirstSpec)) groupFirstCard

/-- THE TIED CARD OF 'linchpinlaw12.GroupBegins'. -/
def groupBeginsCard : Claim7 := { stood := { row := groupBeginsRow, standIns := [], harness := (true, "33fec7362ec87f54d0e99cfb93469bcc13f91371f461a27532ebd3f22f83d978"), looks := false }, kinds := [], alts := [], laidByText := true, laidKinds := [.data, .data], laidTests := true, laidLooks := .later }
def GroupBeginsCardSaid : Prop := Claim7.holds Tryd.pinned (.plain (OpenSpec.ofChange groupBeginsSpec)) groupBeginsCard

/-- THE TIED CARD OF 'linchpinlaw12.GroupForms'. -/
def groupFormsCard : Claim7 := { stood := { row := groupFormsRow, standIns := [], harness := (true, "33fec7362ec87f54d0e99cfb93469bcc13f91371f461a27532ebd3f22f83d978"), looks := false }, kinds := [], alts := [], laidByText := true, laidKinds := [.data, .data], laidTests := true, laidLooks := .later }
def GroupFormsCardSaid : Prop := Claim7.holds Tryd.pinned (.plain (OpenSpec.ofChange groupFormsSpec)) groupFormsCard

/-- THE SECOND FORM's CARD OF 'linchpinlaw12.GroupTells'. -/
def groupTellsUptoCard : Claim7 := { stood := { row := groupTellsUptoRow, standIns := [], harness := (true, "33fec7362ec87f54d0e99cfb93469bcc13f91371f461a27532ebd3f22f83d978"), looks := false }, kinds := [], alts := [], laidByText := true, laidKinds := [.data, .data], laidTests := true, laidLooks := .later }
def GroupTellsUptoCardSaid : Prop := Claim7.holds Tryd.pinned (.plain (OpenSpec.upto groupTellsSpec)) groupTellsUptoCard

/-- THE SECOND FORM's CARD OF 'linchpinlaw12.GroupFirst'. -/
def groupFirstUptoCard : Claim7 := { stood := { row := groupFirstUptoRow, standIns := [], harness := (true, "33fec7362ec87f54d0e99cfb93469bcc13f91371f461a27532ebd3f22f83d978"), looks := false }, kinds := [], alts := [], laidByText := true, laidKinds := [.data, .data], laidTests := true, laidLooks := .later }
def GroupFirstUptoCardSaid : Prop := Claim7.holds Tryd.pinned (.plain (OpenSpec.upto groupFirstSpec)) groupFirstUptoCard

/-- THE SECOND FORM's CARD OF 'linchpinlaw12.GroupBegins'. -/
def groupBeginsUptoCard : Claim7 := { stood := { row := groupBeginsUptoRow, standIns := [], harness := (true, "33fec7362ec87f54d0e99cfb93469bcc13f91371f461a27532ebd3f22f83d978"), looks := false }, kinds := [], alts := [], laidByText := true, laidKinds := [.data, .data], laidTests := true, laidLooks := .later }
def GroupBeginsUptoCardSaid : Prop := Claim7.holds Tryd.pinned (.plain (OpenSpec.upto groupBeginsSpec)) groupBeginsUptoCard

/-- THE SECOND FORM's CARD OF 'linchpinlaw12.GroupForms'. -/
def groupFormsUptoCard : Claim7 := { stood := { row := groupFormsUptoRow, standIns := [], harness := (true, "33fec7362ec87f54d0e99cfb93469bcc13f91371f461a27532ebd3f22f83d978"), looks := false }, kinds := [], alts := [], laidByText := true, laidKinds := [.data, .data], laidTests := true, laidLooks := .later }
def GroupFormsUptoCardSaid : Prop := Claim7.holds Tryd.pinned (.plain (OpenSpec.upto groupFormsSpec)) groupFormsUptoCard
end Rows
end Go.Proofs.YtimbhnnidohmaaaDoor
