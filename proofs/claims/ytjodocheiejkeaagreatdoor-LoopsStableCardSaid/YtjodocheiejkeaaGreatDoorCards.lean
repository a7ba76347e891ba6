/-
  DERIVED. GIVEN WITH THE SEED: THE CARDS: each row of YtjodocheiejkeaaGreatDoorRows.lean that lists a variable, with what it lists TIED to the program's text (the seventh form; the later family's looks); each row that meets fmt, with fmt's text TOLD by the authors' own Lean function (tested against real Go, not proved from fmt's source: count such statements apart). THE CARD IS WHAT COUNTS. Prove the row's statement (the work); the ties are given (YtjodocheiejkeaaGreatDoorTie.lean); close each card by the builder's one call (the guide's Derived/Test/ToyasCard.lean, 'card_holds'). Laid BY PROGRAM, IN A SANDBOX (cutbox-door.mjs). By AI agents, Wed Nov 11 2026. No macro, syntax, notation, axiom, sorry.
-/
import Derived.Test.YtjodocheiejkeaaGreatDoorRows
import GoSem.ClaimSeven
namespace Go.Proofs.YtjodocheiejkeaaGreatDoor
namespace Rows

/-- THE TIED CARD OF 'ostlerlaw26.CompleteStable'. -/
def completeStableCard : Claim7 := { stood := { row := completeStableRow, standIns := [], harness := (true, "89ea8670475ba618c30061a527df9aa65720307d95775d524e8b909672b78ee0"), looks := false }, kinds := [], alts := [], laidByText := true, laidKinds := [.data, .data, .data], laidTests := true, laidLooks := .later }
def CompleteStableCardSaid : Prop := Claim7.holds Tryz.pinned (.plain (OpenSpec.ofChange completeStableSpec)) completeStableCard

/-- THE TIED CARD OF 'ostlerlaw27.LoopsStable'. -/
def loopsStableCard : Claim7 := { stood := { row := loopsStableRow, standIns := [], harness := (true, "89ea8670475ba618c30061a527df9aa65720307d95775d524e8b909672b78ee0"), looks := false }, kinds := [], alts := [], laidByText := true, laidKinds := [.data, .data, .data], laidTests := true, laidLooks := .later }
def LoopsStableCardSaid : Prop := Claim7.holds Tryz.pinned (.plain (OpenSpec.ofChange loopsStableSpec)) loopsStableCard

/-- THE TIED CARD OF 'ostlerlaw27.LoopsSound'. -/
def loopsSoundCard : Claim7 := { stood := { row := loopsSoundRow, standIns := [], harness := (true, "89ea8670475ba618c30061a527df9aa65720307d95775d524e8b909672b78ee0"), looks := false }, kinds := [], alts := [], laidByText := true, laidKinds := [.data, .data, .data], laidTests := true, laidLooks := .later }
def LoopsSoundCardSaid : Prop := Claim7.holds Tryz.pinned (.plain (OpenSpec.ofChange loopsSoundSpec)) loopsSoundCard

/-- THE SECOND FORM's CARD OF 'ostlerlaw26.CompleteStable'. -/
def completeStableUptoCard : Claim7 := { stood := { row := completeStableUptoRow, standIns := [], harness := (true, "89ea8670475ba618c30061a527df9aa65720307d95775d524e8b909672b78ee0"), looks := false }, kinds := [], alts := [], laidByText := true, laidKinds := [.data, .data, .data], laidTests := true, laidLooks := .later }
def CompleteStableUptoCardSaid : Prop := Claim7.holds Tryz.pinned (.plain (OpenSpec.upto completeStableSpec)) completeStableUptoCard

/-- THE SECOND FORM's CARD OF 'ostlerlaw27.LoopsStable'. -/
def loopsStableUptoCard : Claim7 := { stood := { row := loopsStableUptoRow, standIns := [], harness := (true, "89ea8670475ba618c30061a527df9aa65720307d95775d524e8b909672b78ee0"), looks := false }, kinds := [], alts := [], laidByText := true, laidKinds := [.data, .data, .data], laidTests := true, laidLooks := .later }
def LoopsStableUptoCardSaid : Prop := Claim7.holds Tryz.pinned (.plain (OpenSpec.upto loopsStableSpec)) loopsStableUptoCard

/-- THE SECOND FORM's CARD OF 'ostlerlaw27.LoopsSound'. -/
def loopsSoundUptoCard : Claim7 := { stood := { row := loopsSoundUptoRow, standIns := [], harness := (true, "89ea8670475ba618c30061a527df9aa65720307d95775d524e8b909672b78ee0"), looks := false }, kinds := [], alts := [], laidByText := true, laidKinds := [.data, .data, .data], laidTests := true, laidLooks := .later }
def LoopsSoundUptoCardSaid : Prop := Claim7.holds Tryz.pinned (.plain (OpenSpec.upto loopsSoundSpec)) loopsSoundUptoCard
end Rows
end Go.Proofs.YtjodocheiejkeaaGreatDoor
