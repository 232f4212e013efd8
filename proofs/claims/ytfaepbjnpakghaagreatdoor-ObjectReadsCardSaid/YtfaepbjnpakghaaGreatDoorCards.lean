/-
  DERIVED. GIVEN WITH THE SEED: THE CARDS: each row of YtfaepbjnpakghaaGreatDoorRows.lean that lists a variable, with what it lists TIED to the program's text (the seventh form; the later family's looks); each row that meets fmt, with fmt's text TOLD by the authors' own Lean function (tested against real Go, not proved from fmt's source: count such statements apart). THE CARD IS WHAT COUNTS. Prove the row's statement (the work); the ties are given (YtfaepbjnpakghaaGreatDoorTie.lean); close each card by the builder's one call (the guide's Derived/Test/ToyasCard.lean, 'card_holds'). Laid BY PROGRAM, IN A SANDBOX (cutbox-door.mjs). By AI agents, Wed Nov 11 2026. No macro, syntax, notation, axiom, sorry.
-/
import Derived.Test.YtfaepbjnpakghaaGreatDoorRows
import GoSem.ClaimSeven
namespace Go.Proofs.YtfaepbjnpakghaaGreatDoor
namespace Rows

/-- THE TIED CARD OF 'linchpinlaw10.ObjectTells'. -/
def objectTellsCard : Claim7 := { stood := { row := objectTellsRow, standIns := [], harness := (true, "22f6ac41b49b110a12e1d6255714e62161f2c98cda37cc46d40e48c386ad65d4"), looks := false }, kinds := [], alts := [], laidByText := true, laidKinds := [.data, .data, .widerDeep], laidTests := true, laidLooks := .later }
def ObjectTellsCardSaid : Prop := Claim7.holds Tryz.pinned (.plain (OpenSpec.ofChange objectTellsSpec)) objectTellsCard

/-- THE TIED CARD OF 'linchpinlaw10.ObjectBack'. -/
def objectBackCard : Claim7 := { stood := { row := objectBackRow, standIns := [], harness := (true, "22f6ac41b49b110a12e1d6255714e62161f2c98cda37cc46d40e48c386ad65d4"), looks := false }, kinds := [], alts := [], laidByText := true, laidKinds := [.data, .data, .widerDeep], laidTests := true, laidLooks := .later }
def ObjectBackCardSaid : Prop := Claim7.holds Tryz.pinned (.plain (OpenSpec.ofChange objectBackSpec)) objectBackCard

/-- THE TIED CARD OF 'linchpinlaw10.ObjectReads'. -/
def objectReadsCard : Claim7 := { stood := { row := objectReadsRow, standIns := [], harness := (true, "22f6ac41b49b110a12e1d6255714e62161f2c98cda37cc46d40e48c386ad65d4"), looks := false }, kinds := [], alts := [], laidByText := true, laidKinds := [.data, .data, .widerDeep], laidTests := true, laidLooks := .later }
def ObjectReadsCardSaid : Prop := Claim7.holds Tryz.pinned (.plain (OpenSpec.ofChange objectReadsSpec)) objectReadsCard

/-- THE TIED CARD OF 'linchpinlaw10.ObjectForms'. -/
def objectFormsCard : Claim7 := { stood := { row := objectFormsRow, standIns := [], harness := (true, "22f6ac41b49b110a12e1d6255714e62161f2c98cda37cc46d40e48c386ad65d4"), looks := false }, kinds := [], alts := [], laidByText := true, laidKinds := [.data, .data, .widerDeep], laidTests := true, laidLooks := .later }
def ObjectFormsCardSaid : Prop := Claim7.holds Tryz.pinned (.plain (OpenSpec.ofChange objectFormsSpec)) objectFormsCard

/-- THE TIED CARD OF 'linchpinlaw10.ObjectRefuses'. -/
def objectRefusesCard : Claim7 := { stood := { row := objectRefusesRow, standIns := [], harness := (true, "22f6ac41b49b110a12e1d6255714e62161f2c98cda37cc46d40e48c386ad65d4"), looks := false }, kinds := [], alts := [], laidByText := true, laidKinds := [.data, .data, .widerDeep], laidTests := true, laidLooks := .later }
def ObjectRefusesCardSaid : Prop := Claim7.holds Tryz.pinned (.plain (OpenSpec.ofChange objectRefusesSpec)) objectRefusesCard

/-- THE SECOND FORM's CARD OF 'linchpinlaw10.ObjectTells'. -/
def objectTellsUptoCard : Claim7 := { stood := { row := objectTellsUptoRow, standIns := [], harness := (true, "22f6ac41b49b110a12e1d6255714e62161f2c98cda37cc46d40e48c386ad65d4"), looks := false }, kinds := [], alts := [], laidByText := true, laidKinds := [.data, .data, .widerDeep], laidTests := true, laidLooks := .later }
def ObjectTellsUptoCardSaid : Prop := Claim7.holds Tryz.pinned (.plain (OpenSpec.upto objectTellsSpec)) objectTellsUptoCard

/-- THE SECOND FORM's CARD OF 'linchpinlaw10.ObjectBack'. -/
def objectBackUptoCard : Claim7 := { stood := { row := objectBackUptoRow, standIns := [], harness := (true, "22f6ac41b49b110a12e1d6255714e62161f2c98cda37cc46d40e48c386ad65d4"), looks := false }, kinds := [], alts := [], laidByText := true, laidKinds := [.data, .data, .widerDeep], laidTests := true, laidLooks := .later }
def ObjectBackUptoCardSaid : Prop := Claim7.holds Tryz.pinned (.plain (OpenSpec.upto objectBackSpec)) objectBackUptoCard

/-- THE SECOND FORM's CARD OF 'linchpinlaw10.ObjectReads'. -/
def objectReadsUptoCard : Claim7 := { stood := { row := objectReadsUptoRow, standIns := [], harness := (true, "22f6ac41b49b110a12e1d6255714e62161f2c98cda37cc46d40e48c386ad65d4"), looks := false }, kinds := [], alts := [], laidByText := true, laidKinds := [.data, .data, .widerDeep], laidTests := true, laidLooks := .later }
def ObjectReadsUptoCardSaid : Prop := Claim7.holds Tryz.pinned (.plain (OpenSpec.upto objectReadsSpec)) objectReadsUptoCard

/-- THE SECOND FORM's CARD OF 'linchpinlaw10.ObjectForms'. -/
def objectFormsUptoCard : Claim7 := { stood := { row := objectFormsUptoRow, standIns := [], harness := (true, "22f6ac41b49b110a12e1d6255714e62161f2c98cda37cc46d40e48c386ad65d4"), looks := false }, kinds := [], alts := [], laidByText := true, laidKinds := [.data, .data, .widerDeep], laidTests := true, laidLooks := .later }
def ObjectFormsUptoCardSaid : Prop := Claim7.holds Tryz.pinned (.plain (OpenSpec.upto objectFormsSpec)) objectFormsUptoCard

/-- THE SECOND FORM's CARD OF 'linchpinlaw10.ObjectRefuses'. -/
def objectRefusesUptoCard : Claim7 := { stood := { row := objectRefusesUptoRow, standIns := [], harness := (true, "22f6ac41b49b110a12e1d6255714e62161f2c98cda37cc46d40e48c386ad65d4"), looks := false }, kinds := [], alts := [], laidByText := true, laidKinds := [.data, .data, .widerDeep], laidTests := true, laidLooks := .later }
def ObjectRefusesUptoCardSaid : Prop := Claim7.holds Tryz.pinned (.plain (OpenSpec.upto objectRefusesSpec)) objectRefusesUptoCard
end Rows
end Go.Proofs.YtfaepbjnpakghaaGreatDoor
