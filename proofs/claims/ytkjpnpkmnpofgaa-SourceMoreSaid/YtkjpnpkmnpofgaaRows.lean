/-
  No cell of these rows narrows 'for every input' (looked for: loops, veiled, ifaces, maps, wideKeys, modest, calm, conditions, laid).
  DERIVED. THE GIVEN ROWS OF THIS SEAT. 7 by the template 'for every input the law returns true; each argument reads behind the call as it read before'; 0 by the template 'total and deterministic' (their statements: YtkjpnpkmnpofgaaTotals.lean).
  GIVEN WITH THE SEED: the statements are not yours to turn. If you find one false, say at which input.
  Laid BY PROGRAM, IN A SANDBOX (cutbox-rows.mjs): the forced cells as the released guide's own fill.sh prints them over the translation 69a521daad7e5bce… (all of the seat's roots in one cut). By AI agents, Wed Nov 11 2026. No macro, syntax, notation, axiom, sorry.
-/
import Derived.Test.YtkjpnpkmnpofgaaChecked
import GoSem.Claim
import GoSem.ClaimJoined
import GoSem.ClaimMapViews
import Derived.JoinedTies
import Derived.KernelRfl
namespace Go.Proofs.Ytkjpnpkmnpofgaa
/- THE CELL 'sum', in the pinned program and in every row, IS THE sha256 OF THE DUMP (.gsa) THAT YtkjpnpkmnpofgaaProg.lean LOADS. Nothing in Lean hashes anything: it is a label: what it is worth is what the hold of that sum in a sandbox is worth. -/
noncomputable def Try.pinned : Pinned := { name := "ytkjpnpkmnpofgaa", sum := "69a521daad7e5bceb833062977147f90b11d7b6634f93106e4e4667abed2a1fb", checked := Try.checked }
namespace Rows
def none {H : Type} : Left H := { results := [], args := [] }

/-- 'ostlerlaw33.SourceTells': WHATEVER THE INPUT: true; the input reads as it did. -/
def sourceTellsSpec : ChangeSpec := { name := "sourceTells", fn := fun _ => fun
  | [d1, d2] => { results := [.lit (.bool true)], args := [d1, d2] }
  | _ => none }
def sourceTellsRow : OpenClaim := { program := "ytkjpnpkmnpofgaa", sum := "69a521daad7e5bceb833062977147f90b11d7b6634f93106e4e4667abed2a1fb", func := "ostler/ostlerlaw33.SourceTells", spec := "sourceTells", inPlace := ["internal/bytealg.IndexByteString", "internal/bytealg.IndexString"], unfollowed := true, recurses := true, named := ["internal/bytealg.MaxLen"], apart := false }
def SourceTellsSaid : Prop := sourceTellsRow.holds Try.pinned (OpenSpec.ofChange sourceTellsSpec)

/-- ITS FALSE NEIGHBOUR: 'it returns false'. Refute it at one input. -/
def sourceTellsWrong : ChangeSpec := { name := "sourceTells", fn := fun _ => fun
  | [d1, d2] => { results := [.lit (.bool false)], args := [d1, d2] }
  | _ => none }
def SourceTellsWrongFalsely : Prop := sourceTellsRow.holds Try.pinned (OpenSpec.ofChange sourceTellsWrong)

/-- 'ostlerlaw33.SourceOrder': WHATEVER THE INPUT: true; the input reads as it did. -/
def sourceOrderSpec : ChangeSpec := { name := "sourceOrder", fn := fun _ => fun
  | [d1, d2] => { results := [.lit (.bool true)], args := [d1, d2] }
  | _ => none }
def sourceOrderRow : OpenClaim := { program := "ytkjpnpkmnpofgaa", sum := "69a521daad7e5bceb833062977147f90b11d7b6634f93106e4e4667abed2a1fb", func := "ostler/ostlerlaw33.SourceOrder", spec := "sourceOrder", inPlace := ["internal/bytealg.IndexByteString", "internal/bytealg.IndexString"], unfollowed := true, recurses := true, named := ["internal/bytealg.MaxLen"], apart := false }
def SourceOrderSaid : Prop := sourceOrderRow.holds Try.pinned (OpenSpec.ofChange sourceOrderSpec)

/-- ITS FALSE NEIGHBOUR: 'it returns false'. Refute it at one input. -/
def sourceOrderWrong : ChangeSpec := { name := "sourceOrder", fn := fun _ => fun
  | [d1, d2] => { results := [.lit (.bool false)], args := [d1, d2] }
  | _ => none }
def SourceOrderWrongFalsely : Prop := sourceOrderRow.holds Try.pinned (OpenSpec.ofChange sourceOrderWrong)

/-- 'ostlerlaw33.SourceHistory': WHATEVER THE INPUT: true; the input reads as it did. -/
def sourceHistorySpec : ChangeSpec := { name := "sourceHistory", fn := fun _ => fun
  | [d1, d2] => { results := [.lit (.bool true)], args := [d1, d2] }
  | _ => none }
def sourceHistoryRow : OpenClaim := { program := "ytkjpnpkmnpofgaa", sum := "69a521daad7e5bceb833062977147f90b11d7b6634f93106e4e4667abed2a1fb", func := "ostler/ostlerlaw33.SourceHistory", spec := "sourceHistory", inPlace := ["internal/bytealg.IndexByteString", "internal/bytealg.IndexString"], unfollowed := true, recurses := true, named := ["internal/bytealg.MaxLen"], apart := false }
def SourceHistorySaid : Prop := sourceHistoryRow.holds Try.pinned (OpenSpec.ofChange sourceHistorySpec)

/-- ITS FALSE NEIGHBOUR: 'it returns false'. Refute it at one input. -/
def sourceHistoryWrong : ChangeSpec := { name := "sourceHistory", fn := fun _ => fun
  | [d1, d2] => { results := [.lit (.bool false)], args := [d1, d2] }
  | _ => none }
def SourceHistoryWrongFalsely : Prop := sourceHistoryRow.holds Try.pinned (OpenSpec.ofChange sourceHistoryWrong)

/-- 'ostlerlaw33.SourceNil': WHATEVER THE INPUT: true; the input reads as it did. -/
def sourceNilSpec : ChangeSpec := { name := "sourceNil", fn := fun _ => fun
  | [d1, d2] => { results := [.lit (.bool true)], args := [d1, d2] }
  | _ => none }
def sourceNilRow : OpenClaim := { program := "ytkjpnpkmnpofgaa", sum := "69a521daad7e5bceb833062977147f90b11d7b6634f93106e4e4667abed2a1fb", func := "ostler/ostlerlaw33.SourceNil", spec := "sourceNil", inPlace := ["internal/bytealg.IndexByteString", "internal/bytealg.IndexString"], unfollowed := true, recurses := true, named := ["internal/bytealg.MaxLen"], apart := false }
def SourceNilSaid : Prop := sourceNilRow.holds Try.pinned (OpenSpec.ofChange sourceNilSpec)

/-- ITS FALSE NEIGHBOUR: 'it returns false'. Refute it at one input. -/
def sourceNilWrong : ChangeSpec := { name := "sourceNil", fn := fun _ => fun
  | [d1, d2] => { results := [.lit (.bool false)], args := [d1, d2] }
  | _ => none }
def SourceNilWrongFalsely : Prop := sourceNilRow.holds Try.pinned (OpenSpec.ofChange sourceNilWrong)

/-- 'ostlerlaw33.SourceMore': WHATEVER THE INPUT: true; the input reads as it did. -/
def sourceMoreSpec : ChangeSpec := { name := "sourceMore", fn := fun _ => fun
  | [d1, d2, d3] => { results := [.lit (.bool true)], args := [d1, d2, d3] }
  | _ => none }
def sourceMoreRow : OpenClaim := { program := "ytkjpnpkmnpofgaa", sum := "69a521daad7e5bceb833062977147f90b11d7b6634f93106e4e4667abed2a1fb", func := "ostler/ostlerlaw33.SourceMore", spec := "sourceMore", inPlace := ["internal/bytealg.IndexByteString", "internal/bytealg.IndexString"], unfollowed := true, recurses := true, named := ["internal/bytealg.MaxLen"], apart := false }
def SourceMoreSaid : Prop := sourceMoreRow.holds Try.pinned (OpenSpec.ofChange sourceMoreSpec)

/-- ITS FALSE NEIGHBOUR: 'it returns false'. Refute it at one input. -/
def sourceMoreWrong : ChangeSpec := { name := "sourceMore", fn := fun _ => fun
  | [d1, d2, d3] => { results := [.lit (.bool false)], args := [d1, d2, d3] }
  | _ => none }
def SourceMoreWrongFalsely : Prop := sourceMoreRow.holds Try.pinned (OpenSpec.ofChange sourceMoreWrong)

/-- 'ostlerlaw33.SourceUnfounded': WHATEVER THE INPUT: true; the input reads as it did. -/
def sourceUnfoundedSpec : ChangeSpec := { name := "sourceUnfounded", fn := fun _ => fun
  | [d1, d2] => { results := [.lit (.bool true)], args := [d1, d2] }
  | _ => none }
def sourceUnfoundedRow : OpenClaim := { program := "ytkjpnpkmnpofgaa", sum := "69a521daad7e5bceb833062977147f90b11d7b6634f93106e4e4667abed2a1fb", func := "ostler/ostlerlaw33.SourceUnfounded", spec := "sourceUnfounded", inPlace := ["internal/bytealg.IndexByteString", "internal/bytealg.IndexString"], unfollowed := true, recurses := true, named := ["internal/bytealg.MaxLen"], apart := false }
def SourceUnfoundedSaid : Prop := sourceUnfoundedRow.holds Try.pinned (OpenSpec.ofChange sourceUnfoundedSpec)

/-- ITS FALSE NEIGHBOUR: 'it returns false'. Refute it at one input. -/
def sourceUnfoundedWrong : ChangeSpec := { name := "sourceUnfounded", fn := fun _ => fun
  | [d1, d2] => { results := [.lit (.bool false)], args := [d1, d2] }
  | _ => none }
def SourceUnfoundedWrongFalsely : Prop := sourceUnfoundedRow.holds Try.pinned (OpenSpec.ofChange sourceUnfoundedWrong)

/-- 'ostlerlaw33.SourceStable': WHATEVER THE INPUT: true; the input reads as it did. -/
def sourceStableSpec : ChangeSpec := { name := "sourceStable", fn := fun _ => fun
  | [d1, d2] => { results := [.lit (.bool true)], args := [d1, d2] }
  | _ => none }
def sourceStableRow : OpenClaim := { program := "ytkjpnpkmnpofgaa", sum := "69a521daad7e5bceb833062977147f90b11d7b6634f93106e4e4667abed2a1fb", func := "ostler/ostlerlaw33.SourceStable", spec := "sourceStable", inPlace := ["internal/bytealg.IndexByteString", "internal/bytealg.IndexString"], unfollowed := true, recurses := true, named := ["internal/bytealg.MaxLen"], apart := false }
def SourceStableSaid : Prop := sourceStableRow.holds Try.pinned (OpenSpec.ofChange sourceStableSpec)

/-- ITS FALSE NEIGHBOUR: 'it returns false'. Refute it at one input. -/
def sourceStableWrong : ChangeSpec := { name := "sourceStable", fn := fun _ => fun
  | [d1, d2] => { results := [.lit (.bool false)], args := [d1, d2] }
  | _ => none }
def SourceStableWrongFalsely : Prop := sourceStableRow.holds Try.pinned (OpenSpec.ofChange sourceStableWrong)

/- THE SECOND FORM. 'bulk': how many values and letters a reading holds, each counted each time it is reached (what is shared counts as often as it is met; a slice's spare places count too). A statement '..UptoSaid' is the law's where the arguments, and the package variables that the reading takes, are together of bulk at most 1048576: NARROWER than '..Said'. Prove '..Said' where nothing that the law and all that it calls make is longer than what came in: it says more and counts as full. Else prove '..UptoSaid'. A law counts once. -/
mutual
def uptoBulk {H : Type} : DataW H → Nat
  | .lit (.string bytes) => bytes.length + 1
  | .lit _ => 1
  | .nil => 1
  | .ptr d => uptoBulk d + 1
  | .slice elems spare => uptoBulkAll elems + uptoBulkAll spare + 1
  | .agg parts => uptoBulkAll parts + 1
  | .iface _ d => uptoBulk d + 1
  | .map entries => uptoBulkEntries entries + 1
  | .held _ => 1
def uptoBulkAll {H : Type} : List (DataW H) → Nat
  | [] => 0
  | d :: r => uptoBulk d + uptoBulkAll r
def uptoBulkEntries {H : Type} : List (Lit × DataW H) → Nat
  | [] => 0
  | x :: r => uptoBulkEntry x + uptoBulkEntries r
def uptoBulkEntry {H : Type} : Lit × DataW H → Nat
  | (.string bytes, d) => bytes.length + uptoBulk d + 1
  | (_, d) => uptoBulk d + 1
 end
def uptoSmall : (H : Type) → List (DataW H) → Bool := fun _ ds => decide (uptoBulkAll ds ≤ 1048576)
def OpenSpec.upto (s : _root_.Go.ChangeSpec) : _root_.Go.OpenSpec := { _root_.Go.OpenSpec.ofChange s with cond := some uptoSmall }

/-- 'ostlerlaw33.SourceTells', WHERE WHAT IT READS IS OF BULK AT MOST 1048576: true; the input reads as it did. -/
def sourceTellsUptoRow : OpenClaim := { program := "ytkjpnpkmnpofgaa", sum := "69a521daad7e5bceb833062977147f90b11d7b6634f93106e4e4667abed2a1fb", func := "ostler/ostlerlaw33.SourceTells", spec := "sourceTells", inPlace := ["internal/bytealg.IndexByteString", "internal/bytealg.IndexString"], unfollowed := true, recurses := true, named := ["internal/bytealg.MaxLen"], apart := false, narrowed := true }
def SourceTellsUptoSaid : Prop := sourceTellsUptoRow.holds Try.pinned (OpenSpec.upto sourceTellsSpec)

/-- 'ostlerlaw33.SourceOrder', WHERE WHAT IT READS IS OF BULK AT MOST 1048576: true; the input reads as it did. -/
def sourceOrderUptoRow : OpenClaim := { program := "ytkjpnpkmnpofgaa", sum := "69a521daad7e5bceb833062977147f90b11d7b6634f93106e4e4667abed2a1fb", func := "ostler/ostlerlaw33.SourceOrder", spec := "sourceOrder", inPlace := ["internal/bytealg.IndexByteString", "internal/bytealg.IndexString"], unfollowed := true, recurses := true, named := ["internal/bytealg.MaxLen"], apart := false, narrowed := true }
def SourceOrderUptoSaid : Prop := sourceOrderUptoRow.holds Try.pinned (OpenSpec.upto sourceOrderSpec)

/-- 'ostlerlaw33.SourceHistory', WHERE WHAT IT READS IS OF BULK AT MOST 1048576: true; the input reads as it did. -/
def sourceHistoryUptoRow : OpenClaim := { program := "ytkjpnpkmnpofgaa", sum := "69a521daad7e5bceb833062977147f90b11d7b6634f93106e4e4667abed2a1fb", func := "ostler/ostlerlaw33.SourceHistory", spec := "sourceHistory", inPlace := ["internal/bytealg.IndexByteString", "internal/bytealg.IndexString"], unfollowed := true, recurses := true, named := ["internal/bytealg.MaxLen"], apart := false, narrowed := true }
def SourceHistoryUptoSaid : Prop := sourceHistoryUptoRow.holds Try.pinned (OpenSpec.upto sourceHistorySpec)

/-- 'ostlerlaw33.SourceNil', WHERE WHAT IT READS IS OF BULK AT MOST 1048576: true; the input reads as it did. -/
def sourceNilUptoRow : OpenClaim := { program := "ytkjpnpkmnpofgaa", sum := "69a521daad7e5bceb833062977147f90b11d7b6634f93106e4e4667abed2a1fb", func := "ostler/ostlerlaw33.SourceNil", spec := "sourceNil", inPlace := ["internal/bytealg.IndexByteString", "internal/bytealg.IndexString"], unfollowed := true, recurses := true, named := ["internal/bytealg.MaxLen"], apart := false, narrowed := true }
def SourceNilUptoSaid : Prop := sourceNilUptoRow.holds Try.pinned (OpenSpec.upto sourceNilSpec)

/-- 'ostlerlaw33.SourceMore', WHERE WHAT IT READS IS OF BULK AT MOST 1048576: true; the input reads as it did. -/
def sourceMoreUptoRow : OpenClaim := { program := "ytkjpnpkmnpofgaa", sum := "69a521daad7e5bceb833062977147f90b11d7b6634f93106e4e4667abed2a1fb", func := "ostler/ostlerlaw33.SourceMore", spec := "sourceMore", inPlace := ["internal/bytealg.IndexByteString", "internal/bytealg.IndexString"], unfollowed := true, recurses := true, named := ["internal/bytealg.MaxLen"], apart := false, narrowed := true }
def SourceMoreUptoSaid : Prop := sourceMoreUptoRow.holds Try.pinned (OpenSpec.upto sourceMoreSpec)

/-- 'ostlerlaw33.SourceUnfounded', WHERE WHAT IT READS IS OF BULK AT MOST 1048576: true; the input reads as it did. -/
def sourceUnfoundedUptoRow : OpenClaim := { program := "ytkjpnpkmnpofgaa", sum := "69a521daad7e5bceb833062977147f90b11d7b6634f93106e4e4667abed2a1fb", func := "ostler/ostlerlaw33.SourceUnfounded", spec := "sourceUnfounded", inPlace := ["internal/bytealg.IndexByteString", "internal/bytealg.IndexString"], unfollowed := true, recurses := true, named := ["internal/bytealg.MaxLen"], apart := false, narrowed := true }
def SourceUnfoundedUptoSaid : Prop := sourceUnfoundedUptoRow.holds Try.pinned (OpenSpec.upto sourceUnfoundedSpec)

/-- 'ostlerlaw33.SourceStable', WHERE WHAT IT READS IS OF BULK AT MOST 1048576: true; the input reads as it did. -/
def sourceStableUptoRow : OpenClaim := { program := "ytkjpnpkmnpofgaa", sum := "69a521daad7e5bceb833062977147f90b11d7b6634f93106e4e4667abed2a1fb", func := "ostler/ostlerlaw33.SourceStable", spec := "sourceStable", inPlace := ["internal/bytealg.IndexByteString", "internal/bytealg.IndexString"], unfollowed := true, recurses := true, named := ["internal/bytealg.MaxLen"], apart := false, narrowed := true }
def SourceStableUptoSaid : Prop := sourceStableUptoRow.holds Try.pinned (OpenSpec.upto sourceStableSpec)

end Rows
end Go.Proofs.Ytkjpnpkmnpofgaa
