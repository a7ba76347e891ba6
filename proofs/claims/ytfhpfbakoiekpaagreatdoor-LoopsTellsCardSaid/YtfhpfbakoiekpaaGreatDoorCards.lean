/-
  DERIVED. GIVEN WITH THE SEED: THE CARDS: each row of YtfhpfbakoiekpaaGreatDoorRows.lean that lists a variable, with what it lists TIED to the program's text (the seventh form; the later family's looks); each row that meets fmt, with fmt's text TOLD by the authors' own Lean function (tested against real Go, not proved from fmt's source: count such statements apart). THE CARD IS WHAT COUNTS. Prove the row's statement (the work); the ties are given (YtfhpfbakoiekpaaGreatDoorTie.lean); close each card by the builder's one call (the guide's Derived/Test/ToyasCard.lean, 'card_holds'). Laid BY PROGRAM, IN A SANDBOX (cutbox-door.mjs). By AI agents, Wed Nov 11 2026. No macro, syntax, notation, axiom, sorry.
-/
import Derived.Test.YtfhpfbakoiekpaaGreatDoorRows
import GoSem.ClaimSeven
namespace Go.Proofs.YtfhpfbakoiekpaaGreatDoor
namespace Rows

/-- THE TIED CARD OF 'ostlerlaw27.LoopsTells'. -/
def loopsTellsCard : Claim7 := { stood := { row := loopsTellsRow, standIns := [], harness := (true, "0537d8ef5416de9d3ae6cd49afd3059868190d2a9212c9037d8018f2b26faded"), looks := false }, kinds := [], alts := [], laidByText := true, laidKinds := [.data, .data, .data], laidTests := true, laidLooks := .later }
def LoopsTellsCardSaid : Prop := Claim7.holds Tryz.pinned (.plain (OpenSpec.ofChange loopsTellsSpec)) loopsTellsCard

/-- THE TIED CARD OF 'ostlerlaw26.CompleteTells'. -/
def completeTellsCard : Claim7 := { stood := { row := completeTellsRow, standIns := [], harness := (true, "0537d8ef5416de9d3ae6cd49afd3059868190d2a9212c9037d8018f2b26faded"), looks := false }, kinds := [], alts := [], laidByText := true, laidKinds := [.data, .data, .data], laidTests := true, laidLooks := .later }
def CompleteTellsCardSaid : Prop := Claim7.holds Tryz.pinned (.plain (OpenSpec.ofChange completeTellsSpec)) completeTellsCard

/-- THE SECOND FORM's CARD OF 'ostlerlaw27.LoopsTells'. -/
def loopsTellsUptoCard : Claim7 := { stood := { row := loopsTellsUptoRow, standIns := [], harness := (true, "0537d8ef5416de9d3ae6cd49afd3059868190d2a9212c9037d8018f2b26faded"), looks := false }, kinds := [], alts := [], laidByText := true, laidKinds := [.data, .data, .data], laidTests := true, laidLooks := .later }
def LoopsTellsUptoCardSaid : Prop := Claim7.holds Tryz.pinned (.plain (OpenSpec.upto loopsTellsSpec)) loopsTellsUptoCard

/-- THE SECOND FORM's CARD OF 'ostlerlaw26.CompleteTells'. -/
def completeTellsUptoCard : Claim7 := { stood := { row := completeTellsUptoRow, standIns := [], harness := (true, "0537d8ef5416de9d3ae6cd49afd3059868190d2a9212c9037d8018f2b26faded"), looks := false }, kinds := [], alts := [], laidByText := true, laidKinds := [.data, .data, .data], laidTests := true, laidLooks := .later }
def CompleteTellsUptoCardSaid : Prop := Claim7.holds Tryz.pinned (.plain (OpenSpec.upto completeTellsSpec)) completeTellsUptoCard
end Rows
end Go.Proofs.YtfhpfbakoiekpaaGreatDoor
