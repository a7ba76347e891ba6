/-
  DERIVED. GIVEN WITH THE SEED: THE CARDS: each row of YtoahecjdkgeamaaGreatDoorRows.lean that lists a variable, with what it lists TIED to the program's text (the seventh form; the later family's looks); each row that meets fmt, with fmt's text TOLD by the authors' own Lean function (tested against real Go, not proved from fmt's source: count such statements apart). THE CARD IS WHAT COUNTS. Prove the row's statement (the work); the ties are given (YtoahecjdkgeamaaGreatDoorTie.lean); close each card by the builder's one call (the guide's Derived/Test/ToyasCard.lean, 'card_holds'). Laid BY PROGRAM, IN A SANDBOX (cutbox-door.mjs). By AI agents, Wed Nov 11 2026. No macro, syntax, notation, axiom, sorry.
-/
import Derived.Test.YtoahecjdkgeamaaGreatDoorRows
import GoSem.ClaimSeven
namespace Go.Proofs.YtoahecjdkgeamaaGreatDoor
namespace Rows

/-- THE TIED CARD OF 'ostlerlaw26.CompleteTells'. -/
def completeTellsCard : Claim7 := { stood := { row := completeTellsRow, standIns := [], harness := (true, "4278c2f53236a04795dae73f78371702515f2ce3e1530c0e5974a7eafbb90ed3"), looks := false }, kinds := [], alts := [], laidByText := true, laidKinds := [.data, .data, .data], laidTests := true, laidLooks := .later }
def CompleteTellsCardSaid : Prop := Claim7.holds Tryz.pinned (.plain (OpenSpec.ofChange completeTellsSpec)) completeTellsCard

/-- THE TIED CARD OF 'ostlerlaw26.CompleteBodies'. -/
def completeBodiesCard : Claim7 := { stood := { row := completeBodiesRow, standIns := [], harness := (true, "4278c2f53236a04795dae73f78371702515f2ce3e1530c0e5974a7eafbb90ed3"), looks := false }, kinds := [], alts := [], laidByText := true, laidKinds := [.data, .data, .data], laidTests := true, laidLooks := .later }
def CompleteBodiesCardSaid : Prop := Claim7.holds Tryz.pinned (.plain (OpenSpec.ofChange completeBodiesSpec)) completeBodiesCard

/-- THE TIED CARD OF 'ostlerlaw26.CompleteCounts'. -/
def completeCountsCard : Claim7 := { stood := { row := completeCountsRow, standIns := [], harness := (true, "4278c2f53236a04795dae73f78371702515f2ce3e1530c0e5974a7eafbb90ed3"), looks := false }, kinds := [], alts := [], laidByText := true, laidKinds := [.data, .data, .data], laidTests := true, laidLooks := .later }
def CompleteCountsCardSaid : Prop := Claim7.holds Tryz.pinned (.plain (OpenSpec.ofChange completeCountsSpec)) completeCountsCard

/-- THE TIED CARD OF 'ostlerlaw26.CompleteMore'. -/
def completeMoreCard : Claim7 := { stood := { row := completeMoreRow, standIns := [], harness := (true, "4278c2f53236a04795dae73f78371702515f2ce3e1530c0e5974a7eafbb90ed3"), looks := false }, kinds := [], alts := [], laidByText := true, laidKinds := [.data, .data, .data], laidTests := true, laidLooks := .later }
def CompleteMoreCardSaid : Prop := Claim7.holds Tryz.pinned (.plain (OpenSpec.ofChange completeMoreSpec)) completeMoreCard

/-- THE TIED CARD OF 'ostlerlaw26.CompleteWrong'. -/
def completeWrongCard : Claim7 := { stood := { row := completeWrongRow, standIns := [], harness := (true, "4278c2f53236a04795dae73f78371702515f2ce3e1530c0e5974a7eafbb90ed3"), looks := false }, kinds := [], alts := [], laidByText := true, laidKinds := [.data, .data, .data], laidTests := true, laidLooks := .later }
def CompleteWrongCardSaid : Prop := Claim7.holds Tryz.pinned (.plain (OpenSpec.ofChange completeWrongSpec)) completeWrongCard

/-- THE TIED CARD OF 'ostlerlaw26.CompleteSupported'. -/
def completeSupportedCard : Claim7 := { stood := { row := completeSupportedRow, standIns := [], harness := (true, "4278c2f53236a04795dae73f78371702515f2ce3e1530c0e5974a7eafbb90ed3"), looks := false }, kinds := [], alts := [], laidByText := true, laidKinds := [.data, .data, .data], laidTests := true, laidLooks := .later }
def CompleteSupportedCardSaid : Prop := Claim7.holds Tryz.pinned (.plain (OpenSpec.ofChange completeSupportedSpec)) completeSupportedCard

/-- THE SECOND FORM's CARD OF 'ostlerlaw26.CompleteTells'. -/
def completeTellsUptoCard : Claim7 := { stood := { row := completeTellsUptoRow, standIns := [], harness := (true, "4278c2f53236a04795dae73f78371702515f2ce3e1530c0e5974a7eafbb90ed3"), looks := false }, kinds := [], alts := [], laidByText := true, laidKinds := [.data, .data, .data], laidTests := true, laidLooks := .later }
def CompleteTellsUptoCardSaid : Prop := Claim7.holds Tryz.pinned (.plain (OpenSpec.upto completeTellsSpec)) completeTellsUptoCard

/-- THE SECOND FORM's CARD OF 'ostlerlaw26.CompleteBodies'. -/
def completeBodiesUptoCard : Claim7 := { stood := { row := completeBodiesUptoRow, standIns := [], harness := (true, "4278c2f53236a04795dae73f78371702515f2ce3e1530c0e5974a7eafbb90ed3"), looks := false }, kinds := [], alts := [], laidByText := true, laidKinds := [.data, .data, .data], laidTests := true, laidLooks := .later }
def CompleteBodiesUptoCardSaid : Prop := Claim7.holds Tryz.pinned (.plain (OpenSpec.upto completeBodiesSpec)) completeBodiesUptoCard

/-- THE SECOND FORM's CARD OF 'ostlerlaw26.CompleteCounts'. -/
def completeCountsUptoCard : Claim7 := { stood := { row := completeCountsUptoRow, standIns := [], harness := (true, "4278c2f53236a04795dae73f78371702515f2ce3e1530c0e5974a7eafbb90ed3"), looks := false }, kinds := [], alts := [], laidByText := true, laidKinds := [.data, .data, .data], laidTests := true, laidLooks := .later }
def CompleteCountsUptoCardSaid : Prop := Claim7.holds Tryz.pinned (.plain (OpenSpec.upto completeCountsSpec)) completeCountsUptoCard

/-- THE SECOND FORM's CARD OF 'ostlerlaw26.CompleteMore'. -/
def completeMoreUptoCard : Claim7 := { stood := { row := completeMoreUptoRow, standIns := [], harness := (true, "4278c2f53236a04795dae73f78371702515f2ce3e1530c0e5974a7eafbb90ed3"), looks := false }, kinds := [], alts := [], laidByText := true, laidKinds := [.data, .data, .data], laidTests := true, laidLooks := .later }
def CompleteMoreUptoCardSaid : Prop := Claim7.holds Tryz.pinned (.plain (OpenSpec.upto completeMoreSpec)) completeMoreUptoCard

/-- THE SECOND FORM's CARD OF 'ostlerlaw26.CompleteWrong'. -/
def completeWrongUptoCard : Claim7 := { stood := { row := completeWrongUptoRow, standIns := [], harness := (true, "4278c2f53236a04795dae73f78371702515f2ce3e1530c0e5974a7eafbb90ed3"), looks := false }, kinds := [], alts := [], laidByText := true, laidKinds := [.data, .data, .data], laidTests := true, laidLooks := .later }
def CompleteWrongUptoCardSaid : Prop := Claim7.holds Tryz.pinned (.plain (OpenSpec.upto completeWrongSpec)) completeWrongUptoCard

/-- THE SECOND FORM's CARD OF 'ostlerlaw26.CompleteSupported'. -/
def completeSupportedUptoCard : Claim7 := { stood := { row := completeSupportedUptoRow, standIns := [], harness := (true, "4278c2f53236a04795dae73f78371702515f2ce3e1530c0e5974a7eafbb90ed3"), looks := false }, kinds := [], alts := [], laidByText := true, laidKinds := [.data, .data, .data], laidTests := true, laidLooks := .later }
def CompleteSupportedUptoCardSaid : Prop := Claim7.holds Tryz.pinned (.plain (OpenSpec.upto completeSupportedSpec)) completeSupportedUptoCard
end Rows
end Go.Proofs.YtoahecjdkgeamaaGreatDoor
