/-
  DERIVED. GIVEN WITH THE SEED: THE CARDS: each row of YtgakoainjgjimaaGreatDoorRows.lean that lists a variable, with what it lists TIED to the program's text (the seventh form; the later family's looks); each row that meets fmt, with fmt's text TOLD by the authors' own Lean function (tested against real Go, not proved from fmt's source: count such statements apart). THE CARD IS WHAT COUNTS. Prove the row's statement (the work); the ties are given (YtgakoainjgjimaaGreatDoorTie.lean); close each card by the builder's one call (the guide's Derived/Test/ToyasCard.lean, 'card_holds'). Laid BY PROGRAM, IN A SANDBOX (cutbox-door.mjs). By AI agents, Wed Nov 11 2026. No macro, syntax, notation, axiom, sorry.
-/
import Derived.Test.YtgakoainjgjimaaGreatDoorRows
import GoSem.ClaimSeven
namespace Go.Proofs.YtgakoainjgjimaaGreatDoor
namespace Rows

/-- THE TIED CARD OF 'ostlerlaw41.ExplainTells'. -/
def explainTellsCard : Claim7 := { stood := { row := explainTellsRow, standIns := [], harness := (true, "0cf632ce0fcfcc756f8449d06a18a93cfc217021be54377b4e0285607c232e49"), looks := false }, kinds := [], alts := [], laidByText := true, laidKinds := [.data, .data, .data], laidTests := true, laidLooks := .later }
def ExplainTellsCardSaid : Prop := Claim7.holds Tryz.pinned (.plain (OpenSpec.ofChange explainTellsSpec)) explainTellsCard

/-- THE TIED CARD OF 'ostlerlaw41.ExplainText'. -/
def explainTextCard : Claim7 := { stood := { row := explainTextRow, standIns := [], harness := (true, "0cf632ce0fcfcc756f8449d06a18a93cfc217021be54377b4e0285607c232e49"), looks := false }, kinds := [], alts := [], laidByText := true, laidKinds := [.data, .data, .data, .data, .pinned], laidTests := true, laidLooks := .later }
def ExplainTextCardSaid : Prop := Claim7.holds Tryz.pinned (.plain (OpenSpec.ofChange explainTextSpec)) explainTextCard

/-- THE TIED CARD OF 'ostlerlaw41.ExplainWhole'. -/
def explainWholeCard : Claim7 := { stood := { row := explainWholeRow, standIns := [], harness := (true, "0cf632ce0fcfcc756f8449d06a18a93cfc217021be54377b4e0285607c232e49"), looks := false }, kinds := [], alts := [], laidByText := true, laidKinds := [.data, .data, .data], laidTests := true, laidLooks := .later }
def ExplainWholeCardSaid : Prop := Claim7.holds Tryz.pinned (.plain (OpenSpec.ofChange explainWholeSpec)) explainWholeCard

/-- THE SECOND FORM's CARD OF 'ostlerlaw41.ExplainTells'. -/
def explainTellsUptoCard : Claim7 := { stood := { row := explainTellsUptoRow, standIns := [], harness := (true, "0cf632ce0fcfcc756f8449d06a18a93cfc217021be54377b4e0285607c232e49"), looks := false }, kinds := [], alts := [], laidByText := true, laidKinds := [.data, .data, .data], laidTests := true, laidLooks := .later }
def ExplainTellsUptoCardSaid : Prop := Claim7.holds Tryz.pinned (.plain (OpenSpec.upto explainTellsSpec)) explainTellsUptoCard

/-- THE SECOND FORM's CARD OF 'ostlerlaw41.ExplainText'. -/
def explainTextUptoCard : Claim7 := { stood := { row := explainTextUptoRow, standIns := [], harness := (true, "0cf632ce0fcfcc756f8449d06a18a93cfc217021be54377b4e0285607c232e49"), looks := false }, kinds := [], alts := [], laidByText := true, laidKinds := [.data, .data, .data, .data, .pinned], laidTests := true, laidLooks := .later }
def ExplainTextUptoCardSaid : Prop := Claim7.holds Tryz.pinned (.plain (OpenSpec.upto explainTextSpec)) explainTextUptoCard

/-- THE SECOND FORM's CARD OF 'ostlerlaw41.ExplainWhole'. -/
def explainWholeUptoCard : Claim7 := { stood := { row := explainWholeUptoRow, standIns := [], harness := (true, "0cf632ce0fcfcc756f8449d06a18a93cfc217021be54377b4e0285607c232e49"), looks := false }, kinds := [], alts := [], laidByText := true, laidKinds := [.data, .data, .data], laidTests := true, laidLooks := .later }
def ExplainWholeUptoCardSaid : Prop := Claim7.holds Tryz.pinned (.plain (OpenSpec.upto explainWholeSpec)) explainWholeUptoCard
end Rows
end Go.Proofs.YtgakoainjgjimaaGreatDoor
