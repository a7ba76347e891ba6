/-
  DERIVED. GIVEN WITH THE SEED: THE CARDS: each row of YthclpkhaenaknaaGreatDoorRows.lean that lists a variable, with what it lists TIED to the program's text (the seventh form; the later family's looks); each row that meets fmt, with fmt's text TOLD by the authors' own Lean function (tested against real Go, not proved from fmt's source: count such statements apart). THE CARD IS WHAT COUNTS. Prove the row's statement (the work); the ties are given (YthclpkhaenaknaaGreatDoorTie.lean); close each card by the builder's one call (the guide's Derived/Test/ToyasCard.lean, 'card_holds'). Laid BY PROGRAM, IN A SANDBOX (cutbox-door.mjs). By AI agents, Wed Nov 11 2026. No macro, syntax, notation, axiom, sorry.
-/
import Derived.Test.YthclpkhaenaknaaGreatDoorRows
import GoSem.ClaimSeven
namespace Go.Proofs.YthclpkhaenaknaaGreatDoor
namespace Rows

/-- THE TIED CARD OF 'ostlerlaw27.LoopsTells'. -/
def loopsTellsCard : Claim7 := { stood := { row := loopsTellsRow, standIns := [], harness := (true, "20f2f04539aaad3d6d7bed59f06464f144158d849220f73c2ee9c9b73e7cb8e3"), looks := false }, kinds := [], alts := [], laidByText := true, laidKinds := [.data, .data, .data], laidTests := true, laidLooks := .later }
def LoopsTellsCardSaid : Prop := Claim7.holds Tryz.pinned (.plain (OpenSpec.ofChange loopsTellsSpec)) loopsTellsCard

/-- THE TIED CARD OF 'ostlerlaw27.LoopsWrong'. -/
def loopsWrongCard : Claim7 := { stood := { row := loopsWrongRow, standIns := [], harness := (true, "20f2f04539aaad3d6d7bed59f06464f144158d849220f73c2ee9c9b73e7cb8e3"), looks := false }, kinds := [], alts := [], laidByText := true, laidKinds := [.data, .data, .data], laidTests := true, laidLooks := .later }
def LoopsWrongCardSaid : Prop := Claim7.holds Tryz.pinned (.plain (OpenSpec.ofChange loopsWrongSpec)) loopsWrongCard

/-- THE TIED CARD OF 'ostlerlaw27.LoopsGrow'. -/
def loopsGrowCard : Claim7 := { stood := { row := loopsGrowRow, standIns := [], harness := (true, "20f2f04539aaad3d6d7bed59f06464f144158d849220f73c2ee9c9b73e7cb8e3"), looks := false }, kinds := [], alts := [], laidByText := true, laidKinds := [.data, .data, .data], laidTests := true, laidLooks := .later }
def LoopsGrowCardSaid : Prop := Claim7.holds Tryz.pinned (.plain (OpenSpec.ofChange loopsGrowSpec)) loopsGrowCard

/-- THE TIED CARD OF 'ostlerlaw27.LoopsMake'. -/
def loopsMakeCard : Claim7 := { stood := { row := loopsMakeRow, standIns := [], harness := (true, "20f2f04539aaad3d6d7bed59f06464f144158d849220f73c2ee9c9b73e7cb8e3"), looks := false }, kinds := [], alts := [], laidByText := true, laidKinds := [.data, .data, .data], laidTests := true, laidLooks := .later }
def LoopsMakeCardSaid : Prop := Claim7.holds Tryz.pinned (.plain (OpenSpec.ofChange loopsMakeSpec)) loopsMakeCard

/-- THE TIED CARD OF 'ostlerlaw27.LoopsSupport'. -/
def loopsSupportCard : Claim7 := { stood := { row := loopsSupportRow, standIns := [], harness := (true, "20f2f04539aaad3d6d7bed59f06464f144158d849220f73c2ee9c9b73e7cb8e3"), looks := false }, kinds := [], alts := [], laidByText := true, laidKinds := [.data, .data, .data], laidTests := true, laidLooks := .later }
def LoopsSupportCardSaid : Prop := Claim7.holds Tryz.pinned (.plain (OpenSpec.ofChange loopsSupportSpec)) loopsSupportCard

/-- THE SECOND FORM's CARD OF 'ostlerlaw27.LoopsTells'. -/
def loopsTellsUptoCard : Claim7 := { stood := { row := loopsTellsUptoRow, standIns := [], harness := (true, "20f2f04539aaad3d6d7bed59f06464f144158d849220f73c2ee9c9b73e7cb8e3"), looks := false }, kinds := [], alts := [], laidByText := true, laidKinds := [.data, .data, .data], laidTests := true, laidLooks := .later }
def LoopsTellsUptoCardSaid : Prop := Claim7.holds Tryz.pinned (.plain (OpenSpec.upto loopsTellsSpec)) loopsTellsUptoCard

/-- THE SECOND FORM's CARD OF 'ostlerlaw27.LoopsWrong'. -/
def loopsWrongUptoCard : Claim7 := { stood := { row := loopsWrongUptoRow, standIns := [], harness := (true, "20f2f04539aaad3d6d7bed59f06464f144158d849220f73c2ee9c9b73e7cb8e3"), looks := false }, kinds := [], alts := [], laidByText := true, laidKinds := [.data, .data, .data], laidTests := true, laidLooks := .later }
def LoopsWrongUptoCardSaid : Prop := Claim7.holds Tryz.pinned (.plain (OpenSpec.upto loopsWrongSpec)) loopsWrongUptoCard

/-- THE SECOND FORM's CARD OF 'ostlerlaw27.LoopsGrow'. -/
def loopsGrowUptoCard : Claim7 := { stood := { row := loopsGrowUptoRow, standIns := [], harness := (true, "20f2f04539aaad3d6d7bed59f06464f144158d849220f73c2ee9c9b73e7cb8e3"), looks := false }, kinds := [], alts := [], laidByText := true, laidKinds := [.data, .data, .data], laidTests := true, laidLooks := .later }
def LoopsGrowUptoCardSaid : Prop := Claim7.holds Tryz.pinned (.plain (OpenSpec.upto loopsGrowSpec)) loopsGrowUptoCard

/-- THE SECOND FORM's CARD OF 'ostlerlaw27.LoopsMake'. -/
def loopsMakeUptoCard : Claim7 := { stood := { row := loopsMakeUptoRow, standIns := [], harness := (true, "20f2f04539aaad3d6d7bed59f06464f144158d849220f73c2ee9c9b73e7cb8e3"), looks := false }, kinds := [], alts := [], laidByText := true, laidKinds := [.data, .data, .data], laidTests := true, laidLooks := .later }
def LoopsMakeUptoCardSaid : Prop := Claim7.holds Tryz.pinned (.plain (OpenSpec.upto loopsMakeSpec)) loopsMakeUptoCard

/-- THE SECOND FORM's CARD OF 'ostlerlaw27.LoopsSupport'. -/
def loopsSupportUptoCard : Claim7 := { stood := { row := loopsSupportUptoRow, standIns := [], harness := (true, "20f2f04539aaad3d6d7bed59f06464f144158d849220f73c2ee9c9b73e7cb8e3"), looks := false }, kinds := [], alts := [], laidByText := true, laidKinds := [.data, .data, .data], laidTests := true, laidLooks := .later }
def LoopsSupportUptoCardSaid : Prop := Claim7.holds Tryz.pinned (.plain (OpenSpec.upto loopsSupportSpec)) loopsSupportUptoCard
end Rows
end Go.Proofs.YthclpkhaenaknaaGreatDoor
