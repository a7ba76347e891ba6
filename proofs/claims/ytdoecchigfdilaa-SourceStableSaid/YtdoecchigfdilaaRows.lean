/-
  No cell of these rows narrows 'for every input' (looked for: loops, veiled, ifaces, maps, wideKeys, modest, calm, conditions, laid).
  DERIVED. THE GIVEN ROWS OF THIS SEAT. 2 by the template 'for every input the law returns true; each argument reads behind the call as it read before'; 0 by the template 'total and deterministic' (their statements: YtdoecchigfdilaaTotals.lean).
  GIVEN WITH THE SEED: the statements are not yours to turn. If you find one false, say at which input.
  Laid BY PROGRAM, IN A SANDBOX (cutbox-rows.mjs): the forced cells as the released guide's own fill.sh prints them over the translation 53db93c6d320e314… (all of the seat's roots in one cut). By AI agents, Wed Nov 11 2026. No macro, syntax, notation, axiom, sorry.
-/
import Derived.Test.YtdoecchigfdilaaChecked
import GoSem.Claim
import GoSem.ClaimJoined
import GoSem.ClaimMapViews
import Derived.JoinedTies
import Derived.KernelRfl
namespace Go.Proofs.Ytdoecchigfdilaa
/- THE CELL 'sum', in the pinned program and in every row, IS THE sha256 OF THE DUMP (.gsa) THAT YtdoecchigfdilaaProg.lean LOADS. Nothing in Lean hashes anything: it is a label: what it is worth is what the hold of that sum in a sandbox is worth. -/
noncomputable def Try.pinned : Pinned := { name := "ytdoecchigfdilaa", sum := "53db93c6d320e3146f33479430eca1ed921c344e3c51416866b13901a4b1620a", checked := Try.checked }
namespace Rows
def none {H : Type} : Left H := { results := [], args := [] }

/-- 'ostlerlaw33.SourceUnfounded': WHATEVER THE INPUT: true; the input reads as it did. -/
def sourceUnfoundedSpec : ChangeSpec := { name := "sourceUnfounded", fn := fun _ => fun
  | [d1, d2] => { results := [.lit (.bool true)], args := [d1, d2] }
  | _ => none }
def sourceUnfoundedRow : OpenClaim := { program := "ytdoecchigfdilaa", sum := "53db93c6d320e3146f33479430eca1ed921c344e3c51416866b13901a4b1620a", func := "ostler/ostlerlaw33.SourceUnfounded", spec := "sourceUnfounded", inPlace := ["internal/bytealg.IndexByteString", "internal/bytealg.IndexString"], unfollowed := true, recurses := true, named := ["internal/bytealg.MaxLen"], apart := false }
def SourceUnfoundedSaid : Prop := sourceUnfoundedRow.holds Try.pinned (OpenSpec.ofChange sourceUnfoundedSpec)

/-- ITS FALSE NEIGHBOUR: 'it returns false'. Refute it at one input. -/
def sourceUnfoundedWrong : ChangeSpec := { name := "sourceUnfounded", fn := fun _ => fun
  | [d1, d2] => { results := [.lit (.bool false)], args := [d1, d2] }
  | _ => none }
def SourceUnfoundedWrongFalsely : Prop := sourceUnfoundedRow.holds Try.pinned (OpenSpec.ofChange sourceUnfoundedWrong)

/-- 'ostlerlaw33.SourceStable': WHATEVER THE INPUT: true; the input reads as it did. -/
def sourceStableSpec : ChangeSpec := { name := "sourceStable", fn := fun _ => fun
  | [d1, d2] => { results := [.lit (.bool true)], args := [d1, d2] }
  | _ => none }
def sourceStableRow : OpenClaim := { program := "ytdoecchigfdilaa", sum := "53db93c6d320e3146f33479430eca1ed921c344e3c51416866b13901a4b1620a", func := "ostler/ostlerlaw33.SourceStable", spec := "sourceStable", inPlace := ["internal/bytealg.IndexByteString", "internal/bytealg.IndexString"], unfollowed := true, recurses := true, named := ["internal/bytealg.MaxLen"], apart := false }
def SourceStableSaid : Prop := sourceStableRow.holds Try.pinned (OpenSpec.ofChange sourceStableSpec)

/-- ITS FALSE NEIGHBOUR: 'it returns false'. Refute it at one input. -/
def sourceStableWrong : ChangeSpec := { name := "sourceStable", fn := fun _ => fun
  | [d1, d2] => { results := [.lit (.bool false)], args := [d1, d2] }
  | _ => none }
def SourceStableWrongFalsely : Prop := sourceStableRow.holds Try.pinned (OpenSpec.ofChange sourceStableWrong)

/- THE SECOND FORM. 'bulk': how many values and letters a reading holds, each counted each time it is reached (what is shared counts as often as it is met; a slice's spare places count too). A statement '..UptoSaid' is the law's where the arguments, and the package variables that the reading takes, are together of bulk at most 1048576: NARROWER than '..Said'. Prove '..Said' where nothing that the law and all that it calls make is longer than what came in: it says more and counts as full. Else prove '..UptoSaid'. A law counts once. -/
mutual
def uptoBulk {H : Type} : DataW H → Nat
  | .lit (.string bytes) => bytes.length + 1
  | .lit _ => 1
  | .nil => 1
  | .ptr d => uptoBulk d + 1
  | .slice elems spare => uptoBulkAll elems + uptoBulkAll spare + 1
  | .agg parts => uptoBulkAll parts + 1
  | .iface _ d => uptoBulk d + 1
  | .map entries => uptoBulkEntries entries + 1
  | .held _ => 1
def uptoBulkAll {H : Type} : List (DataW H) → Nat
  | [] => 0
  | d :: r => uptoBulk d + uptoBulkAll r
def uptoBulkEntries {H : Type} : List (Lit × DataW H) → Nat
  | [] => 0
  | x :: r => uptoBulkEntry x + uptoBulkEntries r
def uptoBulkEntry {H : Type} : Lit × DataW H → Nat
  | (.string bytes, d) => bytes.length + uptoBulk d + 1
  | (_, d) => uptoBulk d + 1
 end
def uptoSmall : (H : Type) → List (DataW H) → Bool := fun _ ds => decide (uptoBulkAll ds ≤ 1048576)
def OpenSpec.upto (s : _root_.Go.ChangeSpec) : _root_.Go.OpenSpec := { _root_.Go.OpenSpec.ofChange s with cond := some uptoSmall }

/-- 'ostlerlaw33.SourceUnfounded', WHERE WHAT IT READS IS OF BULK AT MOST 1048576: true; the input reads as it did. -/
def sourceUnfoundedUptoRow : OpenClaim := { program := "ytdoecchigfdilaa", sum := "53db93c6d320e3146f33479430eca1ed921c344e3c51416866b13901a4b1620a", func := "ostler/ostlerlaw33.SourceUnfounded", spec := "sourceUnfounded", inPlace := ["internal/bytealg.IndexByteString", "internal/bytealg.IndexString"], unfollowed := true, recurses := true, named := ["internal/bytealg.MaxLen"], apart := false, narrowed := true }
def SourceUnfoundedUptoSaid : Prop := sourceUnfoundedUptoRow.holds Try.pinned (OpenSpec.upto sourceUnfoundedSpec)

/-- 'ostlerlaw33.SourceStable', WHERE WHAT IT READS IS OF BULK AT MOST 1048576: true; the input reads as it did. -/
def sourceStableUptoRow : OpenClaim := { program := "ytdoecchigfdilaa", sum := "53db93c6d320e3146f33479430eca1ed921c344e3c51416866b13901a4b1620a", func := "ostler/ostlerlaw33.SourceStable", spec := "sourceStable", inPlace := ["internal/bytealg.IndexByteString", "internal/bytealg.IndexString"], unfollowed := true, recurses := true, named := ["internal/bytealg.MaxLen"], apart := false, narrowed := true }
def SourceStableUptoSaid : Prop := sourceStableUptoRow.holds Try.pinned (OpenSpec.upto sourceStableSpec)

end Rows
end Go.Proofs.Ytdoecchigfdilaa
