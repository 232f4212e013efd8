/-
  DERIVED. GIVEN WITH THE SEED: THE CARDS: each row of YtmngicdgapkbmaaDoorRows.lean that lists a variable, with what it lists TIED to the program's text (the seventh form; the later family's looks); each row that meets fmt, with fmt's text TOLD by the authors' own Lean function (tested against real Go, not proved from fmt's source: count such statements apart). THE CARD IS WHAT COUNTS. Prove the row's statement (the work); the ties are given (YtmngicdgapkbmaaDoorTie.lean); close each card by the builder's one call (the guide's Derived/Test/ToyasCard.lean, 'card_holds'). Laid BY PROGRAM, IN A SANDBOX (cutbox-door.mjs). By AI agents, Wed Nov 11 2026. No macro, syntax, notation, axiom, sorry.
-/
import Derived.Test.YtmngicdgapkbmaaDoorRows
import GoSem.ClaimSeven
namespace Go.Proofs.YtmngicdgapkbmaaDoor
namespace Rows

/-- THE TIED CARD OF 'linchpinlaw15.RelocTells'. -/
def relocTellsCard : Claim7 := { stood := { row := relocTellsRow, standIns := [], harness := (true, "8f56f12a81f9af8ba480f1e3af9928a66c8a0f8a006840d689d6779db9f23c2a"), looks := false }, kinds := [], alts := [], laidByText := true, laidKinds := [.widerDeep, .widerDeep], laidTests := true, laidLooks := .later }
def RelocTellsCardSaid : Prop := Claim7.holds Tryd.pinned (.plain (OpenSpec.ofChange relocTellsSpec)) relocTellsCard

/-- THE TIED CARD OF 'linchpinlaw15.RelocBack'. -/
def relocBackCard : Claim7 := { stood := { row := relocBackRow, standIns := [], harness := (true, "8f56f12a81f9af8ba480f1e3af9928a66c8a0f8a006840d689d6779db9f23c2a"), looks := false }, kinds := [], alts := [], laidByText := true, laidKinds := [.widerDeep, .widerDeep], laidTests := true, laidLooks := .later }
def RelocBackCardSaid : Prop := Claim7.holds Tryd.pinned (.plain (OpenSpec.ofChange relocBackSpec)) relocBackCard

/-- THE TIED CARD OF 'linchpinlaw15.RelocMoves'. -/
def relocMovesCard : Claim7 := { stood := { row := relocMovesRow, standIns := [], harness := (true, "8f56f12a81f9af8ba480f1e3af9928a66c8a0f8a006840d689d6779db9f23c2a"), looks := false }, kinds := [], alts := [], laidByText := true, laidKinds := [.widerDeep, .widerDeep], laidTests := true, laidLooks := .later }
def RelocMovesCardSaid : Prop := Claim7.holds Tryd.pinned (.plain (OpenSpec.ofChange relocMovesSpec)) relocMovesCard

/-- THE TIED CARD OF 'linchpinlaw15.RelocHalves'. -/
def relocHalvesCard : Claim7 := { stood := { row := relocHalvesRow, standIns := [], harness := (true, "8f56f12a81f9af8ba480f1e3af9928a66c8a0f8a006840d689d6779db9f23c2a"), looks := false }, kinds := [], alts := [], laidByText := true, laidKinds := [.widerDeep, .widerDeep], laidTests := true, laidLooks := .later }
def RelocHalvesCardSaid : Prop := Claim7.holds Tryd.pinned (.plain (OpenSpec.ofChange relocHalvesSpec)) relocHalvesCard

/-- THE TIED CARD OF 'linchpinlaw15.RelocFits'. -/
def relocFitsCard : Claim7 := { stood := { row := relocFitsRow, standIns := [], harness := (true, "8f56f12a81f9af8ba480f1e3af9928a66c8a0f8a006840d689d6779db9f23c2a"), looks := false }, kinds := [], alts := [], laidByText := true, laidKinds := [.widerDeep, .widerDeep], laidTests := true, laidLooks := .later }
def RelocFitsCardSaid : Prop := Claim7.holds Tryd.pinned (.plain (OpenSpec.ofChange relocFitsSpec)) relocFitsCard

/-- THE SECOND FORM's CARD OF 'linchpinlaw15.RelocTells'. -/
def relocTellsUptoCard : Claim7 := { stood := { row := relocTellsUptoRow, standIns := [], harness := (true, "8f56f12a81f9af8ba480f1e3af9928a66c8a0f8a006840d689d6779db9f23c2a"), looks := false }, kinds := [], alts := [], laidByText := true, laidKinds := [.widerDeep, .widerDeep], laidTests := true, laidLooks := .later }
def RelocTellsUptoCardSaid : Prop := Claim7.holds Tryd.pinned (.plain (OpenSpec.upto relocTellsSpec)) relocTellsUptoCard

/-- THE SECOND FORM's CARD OF 'linchpinlaw15.RelocBack'. -/
def relocBackUptoCard : Claim7 := { stood := { row := relocBackUptoRow, standIns := [], harness := (true, "8f56f12a81f9af8ba480f1e3af9928a66c8a0f8a006840d689d6779db9f23c2a"), looks := false }, kinds := [], alts := [], laidByText := true, laidKinds := [.widerDeep, .widerDeep], laidTests := true, laidLooks := .later }
def RelocBackUptoCardSaid : Prop := Claim7.holds Tryd.pinned (.plain (OpenSpec.upto relocBackSpec)) relocBackUptoCard

/-- THE SECOND FORM's CARD OF 'linchpinlaw15.RelocMoves'. -/
def relocMovesUptoCard : Claim7 := { stood := { row := relocMovesUptoRow, standIns := [], harness := (true, "8f56f12a81f9af8ba480f1e3af9928a66c8a0f8a006840d689d6779db9f23c2a"), looks := false }, kinds := [], alts := [], laidByText := true, laidKinds := [.widerDeep, .widerDeep], laidTests := true, laidLooks := .later }
def RelocMovesUptoCardSaid : Prop := Claim7.holds Tryd.pinned (.plain (OpenSpec.upto relocMovesSpec)) relocMovesUptoCard

/-- THE SECOND FORM's CARD OF 'linchpinlaw15.RelocHalves'. -/
def relocHalvesUptoCard : Claim7 := { stood := { row := relocHalvesUptoRow, standIns := [], harness := (true, "8f56f12a81f9af8ba480f1e3af9928a66c8a0f8a006840d689d6779db9f23c2a"), looks := false }, kinds := [], alts := [], laidByText := true, laidKinds := [.widerDeep, .widerDeep], laidTests := true, laidLooks := .later }
def RelocHalvesUptoCardSaid : Prop := Claim7.holds Tryd.pinned (.plain (OpenSpec.upto relocHalvesSpec)) relocHalvesUptoCard

/-- THE SECOND FORM's CARD OF 'linchpinlaw15.RelocFits'. -/
def relocFitsUptoCard : Claim7 := { stood := { row := relocFitsUptoRow, standIns := [], harness := (true, "8f56f12a81f9af8ba480f1e3af9928a66c8a0f8a006840d689d6779db9f23c2a"), looks := false }, kinds := [], alts := [], laidByText := true, laidKinds := [.widerDeep, .widerDeep], laidTests := true, laidLooks := .later }
def RelocFitsUptoCardSaid : Prop := Claim7.holds Tryd.pinned (.plain (OpenSpec.upto relocFitsSpec)) relocFitsUptoCard
end Rows
end Go.Proofs.YtmngicdgapkbmaaDoor
