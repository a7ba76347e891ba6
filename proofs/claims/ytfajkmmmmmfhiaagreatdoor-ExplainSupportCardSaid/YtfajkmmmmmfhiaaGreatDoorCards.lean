/-
  DERIVED. GIVEN WITH THE SEED: THE CARDS: each row of YtfajkmmmmmfhiaaGreatDoorRows.lean that lists a variable, with what it lists TIED to the program's text (the seventh form; the later family's looks); each row that meets fmt, with fmt's text TOLD by the authors' own Lean function (tested against real Go, not proved from fmt's source: count such statements apart). THE CARD IS WHAT COUNTS. Prove the row's statement (the work); the ties are given (YtfajkmmmmmfhiaaGreatDoorTie.lean); close each card by the builder's one call (the guide's Derived/Test/ToyasCard.lean, 'card_holds'). Laid BY PROGRAM, IN A SANDBOX (cutbox-door.mjs). By AI agents, Wed Nov 11 2026. No macro, syntax, notation, axiom, sorry.
-/
import Derived.Test.YtfajkmmmmmfhiaaGreatDoorRows
import GoSem.ClaimSeven
namespace Go.Proofs.YtfajkmmmmmfhiaaGreatDoor
namespace Rows

/-- THE TIED CARD OF 'ostlerlaw41.ExplainTells'. -/
def explainTellsCard : Claim7 := { stood := { row := explainTellsRow, standIns := [], harness := (true, "79a21dcb7ba4627d93a5c483f8c6b44901a39ab5ddb0a0a3a9d476ce02bb2c4c"), looks := false }, kinds := [], alts := [], laidByText := true, laidKinds := [.data, .data, .data], laidTests := true, laidLooks := .later }
def ExplainTellsCardSaid : Prop := Claim7.holds Tryz.pinned (.plain (OpenSpec.ofChange explainTellsSpec)) explainTellsCard

/-- THE TIED CARD OF 'ostlerlaw41.ExplainSpoilt'. -/
def explainSpoiltCard : Claim7 := { stood := { row := explainSpoiltRow, standIns := [], harness := (true, "79a21dcb7ba4627d93a5c483f8c6b44901a39ab5ddb0a0a3a9d476ce02bb2c4c"), looks := false }, kinds := [], alts := [], laidByText := true, laidKinds := [.data, .data, .data], laidTests := true, laidLooks := .later }
def ExplainSpoiltCardSaid : Prop := Claim7.holds Tryz.pinned (.plain (OpenSpec.ofChange explainSpoiltSpec)) explainSpoiltCard

/-- THE TIED CARD OF 'ostlerlaw41.ExplainSupport'. -/
def explainSupportCard : Claim7 := { stood := { row := explainSupportRow, standIns := [], harness := (true, "79a21dcb7ba4627d93a5c483f8c6b44901a39ab5ddb0a0a3a9d476ce02bb2c4c"), looks := false }, kinds := [], alts := [], laidByText := true, laidKinds := [.data, .data, .data], laidTests := true, laidLooks := .later }
def ExplainSupportCardSaid : Prop := Claim7.holds Tryz.pinned (.plain (OpenSpec.ofChange explainSupportSpec)) explainSupportCard

/-- THE TIED CARD OF 'ostlerlaw41.ExplainBlocks'. -/
def explainBlocksCard : Claim7 := { stood := { row := explainBlocksRow, standIns := [], harness := (true, "79a21dcb7ba4627d93a5c483f8c6b44901a39ab5ddb0a0a3a9d476ce02bb2c4c"), looks := false }, kinds := [], alts := [], laidByText := true, laidKinds := [.data, .data, .data], laidTests := true, laidLooks := .later }
def ExplainBlocksCardSaid : Prop := Claim7.holds Tryz.pinned (.plain (OpenSpec.ofChange explainBlocksSpec)) explainBlocksCard

/-- THE TIED CARD OF 'ostlerlaw41.ExplainLeast'. -/
def explainLeastCard : Claim7 := { stood := { row := explainLeastRow, standIns := [], harness := (true, "79a21dcb7ba4627d93a5c483f8c6b44901a39ab5ddb0a0a3a9d476ce02bb2c4c"), looks := false }, kinds := [], alts := [], laidByText := true, laidKinds := [.data, .data, .data], laidTests := true, laidLooks := .later }
def ExplainLeastCardSaid : Prop := Claim7.holds Tryz.pinned (.plain (OpenSpec.ofChange explainLeastSpec)) explainLeastCard

/-- THE TIED CARD OF 'ostlerlaw41.ExplainText'. -/
def explainTextCard : Claim7 := { stood := { row := explainTextRow, standIns := [], harness := (true, "79a21dcb7ba4627d93a5c483f8c6b44901a39ab5ddb0a0a3a9d476ce02bb2c4c"), looks := false }, kinds := [], alts := [], laidByText := true, laidKinds := [.data, .data, .data, .data, .pinned], laidTests := true, laidLooks := .later }
def ExplainTextCardSaid : Prop := Claim7.holds Tryz.pinned (.plain (OpenSpec.ofChange explainTextSpec)) explainTextCard

/-- THE TIED CARD OF 'ostlerlaw41.ExplainSound'. -/
def explainSoundCard : Claim7 := { stood := { row := explainSoundRow, standIns := [], harness := (true, "79a21dcb7ba4627d93a5c483f8c6b44901a39ab5ddb0a0a3a9d476ce02bb2c4c"), looks := false }, kinds := [], alts := [], laidByText := true, laidKinds := [.data, .data, .data], laidTests := true, laidLooks := .later }
def ExplainSoundCardSaid : Prop := Claim7.holds Tryz.pinned (.plain (OpenSpec.ofChange explainSoundSpec)) explainSoundCard

/-- THE TIED CARD OF 'ostlerlaw41.ExplainWhole'. -/
def explainWholeCard : Claim7 := { stood := { row := explainWholeRow, standIns := [], harness := (true, "79a21dcb7ba4627d93a5c483f8c6b44901a39ab5ddb0a0a3a9d476ce02bb2c4c"), looks := false }, kinds := [], alts := [], laidByText := true, laidKinds := [.data, .data, .data], laidTests := true, laidLooks := .later }
def ExplainWholeCardSaid : Prop := Claim7.holds Tryz.pinned (.plain (OpenSpec.ofChange explainWholeSpec)) explainWholeCard

/-- THE SECOND FORM's CARD OF 'ostlerlaw41.ExplainTells'. -/
def explainTellsUptoCard : Claim7 := { stood := { row := explainTellsUptoRow, standIns := [], harness := (true, "79a21dcb7ba4627d93a5c483f8c6b44901a39ab5ddb0a0a3a9d476ce02bb2c4c"), looks := false }, kinds := [], alts := [], laidByText := true, laidKinds := [.data, .data, .data], laidTests := true, laidLooks := .later }
def ExplainTellsUptoCardSaid : Prop := Claim7.holds Tryz.pinned (.plain (OpenSpec.upto explainTellsSpec)) explainTellsUptoCard

/-- THE SECOND FORM's CARD OF 'ostlerlaw41.ExplainSpoilt'. -/
def explainSpoiltUptoCard : Claim7 := { stood := { row := explainSpoiltUptoRow, standIns := [], harness := (true, "79a21dcb7ba4627d93a5c483f8c6b44901a39ab5ddb0a0a3a9d476ce02bb2c4c"), looks := false }, kinds := [], alts := [], laidByText := true, laidKinds := [.data, .data, .data], laidTests := true, laidLooks := .later }
def ExplainSpoiltUptoCardSaid : Prop := Claim7.holds Tryz.pinned (.plain (OpenSpec.upto explainSpoiltSpec)) explainSpoiltUptoCard

/-- THE SECOND FORM's CARD OF 'ostlerlaw41.ExplainSupport'. -/
def explainSupportUptoCard : Claim7 := { stood := { row := explainSupportUptoRow, standIns := [], harness := (true, "79a21dcb7ba4627d93a5c483f8c6b44901a39ab5ddb0a0a3a9d476ce02bb2c4c"), looks := false }, kinds := [], alts := [], laidByText := true, laidKinds := [.data, .data, .data], laidTests := true, laidLooks := .later }
def ExplainSupportUptoCardSaid : Prop := Claim7.holds Tryz.pinned (.plain (OpenSpec.upto explainSupportSpec)) explainSupportUptoCard

/-- THE SECOND FORM's CARD OF 'ostlerlaw41.ExplainBlocks'. -/
def explainBlocksUptoCard : Claim7 := { stood := { row := explainBlocksUptoRow, standIns := [], harness := (true, "79a21dcb7ba4627d93a5c483f8c6b44901a39ab5ddb0a0a3a9d476ce02bb2c4c"), looks := false }, kinds := [], alts := [], laidByText := true, laidKinds := [.data, .data, .data], laidTests := true, laidLooks := .later }
def ExplainBlocksUptoCardSaid : Prop := Claim7.holds Tryz.pinned (.plain (OpenSpec.upto explainBlocksSpec)) explainBlocksUptoCard

/-- THE SECOND FORM's CARD OF 'ostlerlaw41.ExplainLeast'. -/
def explainLeastUptoCard : Claim7 := { stood := { row := explainLeastUptoRow, standIns := [], harness := (true, "79a21dcb7ba4627d93a5c483f8c6b44901a39ab5ddb0a0a3a9d476ce02bb2c4c"), looks := false }, kinds := [], alts := [], laidByText := true, laidKinds := [.data, .data, .data], laidTests := true, laidLooks := .later }
def ExplainLeastUptoCardSaid : Prop := Claim7.holds Tryz.pinned (.plain (OpenSpec.upto explainLeastSpec)) explainLeastUptoCard

/-- THE SECOND FORM's CARD OF 'ostlerlaw41.ExplainText'. -/
def explainTextUptoCard : Claim7 := { stood := { row := explainTextUptoRow, standIns := [], harness := (true, "79a21dcb7ba4627d93a5c483f8c6b44901a39ab5ddb0a0a3a9d476ce02bb2c4c"), looks := false }, kinds := [], alts := [], laidByText := true, laidKinds := [.data, .data, .data, .data, .pinned], laidTests := true, laidLooks := .later }
def ExplainTextUptoCardSaid : Prop := Claim7.holds Tryz.pinned (.plain (OpenSpec.upto explainTextSpec)) explainTextUptoCard

/-- THE SECOND FORM's CARD OF 'ostlerlaw41.ExplainSound'. -/
def explainSoundUptoCard : Claim7 := { stood := { row := explainSoundUptoRow, standIns := [], harness := (true, "79a21dcb7ba4627d93a5c483f8c6b44901a39ab5ddb0a0a3a9d476ce02bb2c4c"), looks := false }, kinds := [], alts := [], laidByText := true, laidKinds := [.data, .data, .data], laidTests := true, laidLooks := .later }
def ExplainSoundUptoCardSaid : Prop := Claim7.holds Tryz.pinned (.plain (OpenSpec.upto explainSoundSpec)) explainSoundUptoCard

/-- THE SECOND FORM's CARD OF 'ostlerlaw41.ExplainWhole'. -/
def explainWholeUptoCard : Claim7 := { stood := { row := explainWholeUptoRow, standIns := [], harness := (true, "79a21dcb7ba4627d93a5c483f8c6b44901a39ab5ddb0a0a3a9d476ce02bb2c4c"), looks := false }, kinds := [], alts := [], laidByText := true, laidKinds := [.data, .data, .data], laidTests := true, laidLooks := .later }
def ExplainWholeUptoCardSaid : Prop := Claim7.holds Tryz.pinned (.plain (OpenSpec.upto explainWholeSpec)) explainWholeUptoCard
end Rows
end Go.Proofs.YtfajkmmmmmfhiaaGreatDoor
