/-
  No cell of these rows narrows 'for every input' (looked for: loops, veiled, ifaces, maps, wideKeys, modest, calm, conditions, laid).
  DERIVED. THE GIVEN ROWS OF THIS SEAT. 8 by the template 'for every input the law returns true; each argument reads behind the call as it read before'; 0 by the template 'total and deterministic' (their statements: YteblddnoegbalaaGreatTotals.lean).
  GIVEN WITH THE SEED: the statements are not yours to turn. If you find one false, say at which input.
  Laid BY PROGRAM, IN A SANDBOX (cutbox-rows.mjs): the forced cells as the released guide's own fill.sh prints them over the translation 43da74723fc27828… (all of the seat's roots in one cut). By AI agents, Wed Nov 11 2026. No macro, syntax, notation, axiom, sorry.
-/
import Derived.Test.YteblddnoegbalaaGreatChecked
import GoSem.Claim
import GoSem.ClaimJoined
import GoSem.ClaimMapViews
import Derived.JoinedTies
import Derived.KernelRfl
namespace Go.Proofs.YteblddnoegbalaaGreat
/- THE CELL 'sum', in the pinned program and in every row, IS THE sha256 OF THE DUMP (.gsa) THAT YteblddnoegbalaaGreatProg.lean LOADS. Nothing in Lean hashes anything: it is a label: what it is worth is what the hold of that sum in a sandbox is worth. -/
noncomputable def Tryz.pinned : Pinned := { name := "yteblddnoegbalaagreat", sum := "43da74723fc27828d8dbbfed92f8d31143de40fd36238587516215c609eaad24", checked := Tryz.checked }
namespace Rows
def none {H : Type} : Left H := { results := [], args := [] }

/-- 'ostlerlaw36.VerifyRups': WHATEVER THE INPUT: true; the input reads as it did. -/
def verifyRupsSpec : ChangeSpec := { name := "verifyRups", fn := fun _ => fun
  | [d1, d2] => { results := [.lit (.bool true)], args := [d1, d2] }
  | _ => none }
def verifyRupsRow : OpenClaim := { program := "yteblddnoegbalaagreat", sum := "43da74723fc27828d8dbbfed92f8d31143de40fd36238587516215c609eaad24", func := "ostler/ostlerlaw36.VerifyRups", spec := "verifyRups", inPlace := ["internal/bytealg.IndexByteString", "internal/bytealg.IndexString"], unfollowed := true, recurses := true, named := ["internal/bytealg.MaxLen"], apart := false }
def VerifyRupsSaid : Prop := verifyRupsRow.holds Tryz.pinned (OpenSpec.ofChange verifyRupsSpec)

/-- ITS FALSE NEIGHBOUR: 'it returns false'. Refute it at one input. -/
def verifyRupsWrong : ChangeSpec := { name := "verifyRups", fn := fun _ => fun
  | [d1, d2] => { results := [.lit (.bool false)], args := [d1, d2] }
  | _ => none }
def VerifyRupsWrongFalsely : Prop := verifyRupsRow.holds Tryz.pinned (OpenSpec.ofChange verifyRupsWrong)

/-- 'ostlerlaw36.VerifyMore': WHATEVER THE INPUT: true; the input reads as it did. -/
def verifyMoreSpec : ChangeSpec := { name := "verifyMore", fn := fun _ => fun
  | [d1, d2, d3, d4] => { results := [.lit (.bool true)], args := [d1, d2, d3, d4] }
  | _ => none }
def verifyMoreRow : OpenClaim := { program := "yteblddnoegbalaagreat", sum := "43da74723fc27828d8dbbfed92f8d31143de40fd36238587516215c609eaad24", func := "ostler/ostlerlaw36.VerifyMore", spec := "verifyMore", inPlace := ["internal/bytealg.IndexByteString", "internal/bytealg.IndexString"], unfollowed := true, recurses := true, named := ["internal/bytealg.MaxLen"], apart := false }
def VerifyMoreSaid : Prop := verifyMoreRow.holds Tryz.pinned (OpenSpec.ofChange verifyMoreSpec)

/-- ITS FALSE NEIGHBOUR: 'it returns false'. Refute it at one input. -/
def verifyMoreWrong : ChangeSpec := { name := "verifyMore", fn := fun _ => fun
  | [d1, d2, d3, d4] => { results := [.lit (.bool false)], args := [d1, d2, d3, d4] }
  | _ => none }
def VerifyMoreWrongFalsely : Prop := verifyMoreRow.holds Tryz.pinned (OpenSpec.ofChange verifyMoreWrong)

/-- 'ostlerlaw36.VerifyRup': WHATEVER THE INPUT: true; the input reads as it did. -/
def verifyRupSpec : ChangeSpec := { name := "verifyRup", fn := fun _ => fun
  | [d1, d2, d3, d4] => { results := [.lit (.bool true)], args := [d1, d2, d3, d4] }
  | _ => none }
def verifyRupRow : OpenClaim := { program := "yteblddnoegbalaagreat", sum := "43da74723fc27828d8dbbfed92f8d31143de40fd36238587516215c609eaad24", func := "ostler/ostlerlaw36.VerifyRup", spec := "verifyRup", inPlace := ["internal/bytealg.IndexByteString", "internal/bytealg.IndexString"], unfollowed := true, recurses := true, named := ["internal/bytealg.MaxLen"], apart := false }
def VerifyRupSaid : Prop := verifyRupRow.holds Tryz.pinned (OpenSpec.ofChange verifyRupSpec)

/-- ITS FALSE NEIGHBOUR: 'it returns false'. Refute it at one input. -/
def verifyRupWrong : ChangeSpec := { name := "verifyRup", fn := fun _ => fun
  | [d1, d2, d3, d4] => { results := [.lit (.bool false)], args := [d1, d2, d3, d4] }
  | _ => none }
def VerifyRupWrongFalsely : Prop := verifyRupRow.holds Tryz.pinned (OpenSpec.ofChange verifyRupWrong)

/-- 'ostlerlaw36.VerifyTells': WHATEVER THE INPUT: true; the input reads as it did. -/
def verifyTellsSpec : ChangeSpec := { name := "verifyTells", fn := fun _ => fun
  | [d1, d2, d3] => { results := [.lit (.bool true)], args := [d1, d2, d3] }
  | _ => none }
def verifyTellsRow : OpenClaim := { program := "yteblddnoegbalaagreat", sum := "43da74723fc27828d8dbbfed92f8d31143de40fd36238587516215c609eaad24", func := "ostler/ostlerlaw36.VerifyTells", spec := "verifyTells", inPlace := ["internal/bytealg.IndexByteString", "internal/bytealg.IndexString"], unfollowed := true, recurses := true, named := ["internal/bytealg.MaxLen"], apart := false }
def VerifyTellsSaid : Prop := verifyTellsRow.holds Tryz.pinned (OpenSpec.ofChange verifyTellsSpec)

/-- ITS FALSE NEIGHBOUR: 'it returns false'. Refute it at one input. -/
def verifyTellsWrong : ChangeSpec := { name := "verifyTells", fn := fun _ => fun
  | [d1, d2, d3] => { results := [.lit (.bool false)], args := [d1, d2, d3] }
  | _ => none }
def VerifyTellsWrongFalsely : Prop := verifyTellsRow.holds Tryz.pinned (OpenSpec.ofChange verifyTellsWrong)

/-- 'ostlerlaw36.VerifyWrong': WHATEVER THE INPUT: true; the input reads as it did. -/
def verifyWrongSpec : ChangeSpec := { name := "verifyWrong", fn := fun _ => fun
  | [d1, d2] => { results := [.lit (.bool true)], args := [d1, d2] }
  | _ => none }
def verifyWrongRow : OpenClaim := { program := "yteblddnoegbalaagreat", sum := "43da74723fc27828d8dbbfed92f8d31143de40fd36238587516215c609eaad24", func := "ostler/ostlerlaw36.VerifyWrong", spec := "verifyWrong", inPlace := ["internal/bytealg.IndexByteString", "internal/bytealg.IndexString"], unfollowed := true, recurses := true, named := ["internal/bytealg.MaxLen"], apart := false }
def VerifyWrongSaid : Prop := verifyWrongRow.holds Tryz.pinned (OpenSpec.ofChange verifyWrongSpec)

/-- ITS FALSE NEIGHBOUR: 'it returns false'. Refute it at one input. -/
def verifyWrongWrong : ChangeSpec := { name := "verifyWrong", fn := fun _ => fun
  | [d1, d2] => { results := [.lit (.bool false)], args := [d1, d2] }
  | _ => none }
def VerifyWrongWrongFalsely : Prop := verifyWrongRow.holds Tryz.pinned (OpenSpec.ofChange verifyWrongWrong)

/-- 'ostlerlaw36.VerifySound': WHATEVER THE INPUT: true; the input reads as it did. -/
def verifySoundSpec : ChangeSpec := { name := "verifySound", fn := fun _ => fun
  | [d1, d2] => { results := [.lit (.bool true)], args := [d1, d2] }
  | _ => none }
def verifySoundRow : OpenClaim := { program := "yteblddnoegbalaagreat", sum := "43da74723fc27828d8dbbfed92f8d31143de40fd36238587516215c609eaad24", func := "ostler/ostlerlaw36.VerifySound", spec := "verifySound", inPlace := ["internal/bytealg.IndexByteString", "internal/bytealg.IndexString"], unfollowed := true, recurses := true, named := ["internal/bytealg.MaxLen"], apart := false }
def VerifySoundSaid : Prop := verifySoundRow.holds Tryz.pinned (OpenSpec.ofChange verifySoundSpec)

/-- ITS FALSE NEIGHBOUR: 'it returns false'. Refute it at one input. -/
def verifySoundWrong : ChangeSpec := { name := "verifySound", fn := fun _ => fun
  | [d1, d2] => { results := [.lit (.bool false)], args := [d1, d2] }
  | _ => none }
def VerifySoundWrongFalsely : Prop := verifySoundRow.holds Tryz.pinned (OpenSpec.ofChange verifySoundWrong)

/-- 'ostlerlaw36.VerifyChange': WHATEVER THE INPUT: true; the input reads as it did. -/
def verifyChangeSpec : ChangeSpec := { name := "verifyChange", fn := fun _ => fun
  | [d1, d2, d3] => { results := [.lit (.bool true)], args := [d1, d2, d3] }
  | _ => none }
def verifyChangeRow : OpenClaim := { program := "yteblddnoegbalaagreat", sum := "43da74723fc27828d8dbbfed92f8d31143de40fd36238587516215c609eaad24", func := "ostler/ostlerlaw36.VerifyChange", spec := "verifyChange", inPlace := ["internal/bytealg.IndexByteString", "internal/bytealg.IndexString"], unfollowed := true, recurses := true, named := ["internal/bytealg.MaxLen"], apart := false }
def VerifyChangeSaid : Prop := verifyChangeRow.holds Tryz.pinned (OpenSpec.ofChange verifyChangeSpec)

/-- ITS FALSE NEIGHBOUR: 'it returns false'. Refute it at one input. -/
def verifyChangeWrong : ChangeSpec := { name := "verifyChange", fn := fun _ => fun
  | [d1, d2, d3] => { results := [.lit (.bool false)], args := [d1, d2, d3] }
  | _ => none }
def VerifyChangeWrongFalsely : Prop := verifyChangeRow.holds Tryz.pinned (OpenSpec.ofChange verifyChangeWrong)

/-- 'ostlerlaw36.VerifyValid': WHATEVER THE INPUT: true; the input reads as it did. -/
def verifyValidSpec : ChangeSpec := { name := "verifyValid", fn := fun _ => fun
  | [d1, d2] => { results := [.lit (.bool true)], args := [d1, d2] }
  | _ => none }
def verifyValidRow : OpenClaim := { program := "yteblddnoegbalaagreat", sum := "43da74723fc27828d8dbbfed92f8d31143de40fd36238587516215c609eaad24", func := "ostler/ostlerlaw36.VerifyValid", spec := "verifyValid", inPlace := ["internal/bytealg.IndexByteString", "internal/bytealg.IndexString"], unfollowed := true, recurses := true, named := ["internal/bytealg.MaxLen"], apart := false }
def VerifyValidSaid : Prop := verifyValidRow.holds Tryz.pinned (OpenSpec.ofChange verifyValidSpec)

/-- ITS FALSE NEIGHBOUR: 'it returns false'. Refute it at one input. -/
def verifyValidWrong : ChangeSpec := { name := "verifyValid", fn := fun _ => fun
  | [d1, d2] => { results := [.lit (.bool false)], args := [d1, d2] }
  | _ => none }
def VerifyValidWrongFalsely : Prop := verifyValidRow.holds Tryz.pinned (OpenSpec.ofChange verifyValidWrong)

/- THE SECOND FORM. 'bulk': how many values and letters a reading holds, each counted each time it is reached (what is shared counts as often as it is met; a slice's spare places count too). A statement '..UptoSaid' is the law's where the arguments, and the package variables that the reading takes, are together of bulk at most 1048576: NARROWER than '..Said'. Prove '..Said' where nothing that the law and all that it calls make is longer than what came in: it says more and counts as full. Else prove '..UptoSaid'. A law counts once. -/
mutual
def uptoBulk {H : Type} : DataW H → Nat
  | .lit (.string bytes) => bytes.length + 1
  | .lit _ => 1
  | .nil => 1
  | .ptr d => uptoBulk d + 1
  | .slice elems spare => uptoBulkAll elems + uptoBulkAll spare + 1
  | .agg parts => uptoBulkAll parts + 1
  | .iface _ d => uptoBulk d + 1
  | .map entries => uptoBulkEntries entries + 1
  | .held _ => 1
def uptoBulkAll {H : Type} : List (DataW H) → Nat
  | [] => 0
  | d :: r => uptoBulk d + uptoBulkAll r
def uptoBulkEntries {H : Type} : List (Lit × DataW H) → Nat
  | [] => 0
  | x :: r => uptoBulkEntry x + uptoBulkEntries r
def uptoBulkEntry {H : Type} : Lit × DataW H → Nat
  | (.string bytes, d) => bytes.length + uptoBulk d + 1
  | (_, d) => uptoBulk d + 1
 end
def uptoSmall : (H : Type) → List (DataW H) → Bool := fun _ ds => decide (uptoBulkAll ds ≤ 1048576)
def OpenSpec.upto (s : _root_.Go.ChangeSpec) : _root_.Go.OpenSpec := { _root_.Go.OpenSpec.ofChange s with cond := some uptoSmall }

/-- 'ostlerlaw36.VerifyRups', WHERE WHAT IT READS IS OF BULK AT MOST 1048576: true; the input reads as it did. -/
def verifyRupsUptoRow : OpenClaim := { program := "yteblddnoegbalaagreat", sum := "43da74723fc27828d8dbbfed92f8d31143de40fd36238587516215c609eaad24", func := "ostler/ostlerlaw36.VerifyRups", spec := "verifyRups", inPlace := ["internal/bytealg.IndexByteString", "internal/bytealg.IndexString"], unfollowed := true, recurses := true, named := ["internal/bytealg.MaxLen"], apart := false, narrowed := true }
def VerifyRupsUptoSaid : Prop := verifyRupsUptoRow.holds Tryz.pinned (OpenSpec.upto verifyRupsSpec)

/-- 'ostlerlaw36.VerifyMore', WHERE WHAT IT READS IS OF BULK AT MOST 1048576: true; the input reads as it did. -/
def verifyMoreUptoRow : OpenClaim := { program := "yteblddnoegbalaagreat", sum := "43da74723fc27828d8dbbfed92f8d31143de40fd36238587516215c609eaad24", func := "ostler/ostlerlaw36.VerifyMore", spec := "verifyMore", inPlace := ["internal/bytealg.IndexByteString", "internal/bytealg.IndexString"], unfollowed := true, recurses := true, named := ["internal/bytealg.MaxLen"], apart := false, narrowed := true }
def VerifyMoreUptoSaid : Prop := verifyMoreUptoRow.holds Tryz.pinned (OpenSpec.upto verifyMoreSpec)

/-- 'ostlerlaw36.VerifyRup', WHERE WHAT IT READS IS OF BULK AT MOST 1048576: true; the input reads as it did. -/
def verifyRupUptoRow : OpenClaim := { program := "yteblddnoegbalaagreat", sum := "43da74723fc27828d8dbbfed92f8d31143de40fd36238587516215c609eaad24", func := "ostler/ostlerlaw36.VerifyRup", spec := "verifyRup", inPlace := ["internal/bytealg.IndexByteString", "internal/bytealg.IndexString"], unfollowed := true, recurses := true, named := ["internal/bytealg.MaxLen"], apart := false, narrowed := true }
def VerifyRupUptoSaid : Prop := verifyRupUptoRow.holds Tryz.pinned (OpenSpec.upto verifyRupSpec)

/-- 'ostlerlaw36.VerifyTells', WHERE WHAT IT READS IS OF BULK AT MOST 1048576: true; the input reads as it did. -/
def verifyTellsUptoRow : OpenClaim := { program := "yteblddnoegbalaagreat", sum := "43da74723fc27828d8dbbfed92f8d31143de40fd36238587516215c609eaad24", func := "ostler/ostlerlaw36.VerifyTells", spec := "verifyTells", inPlace := ["internal/bytealg.IndexByteString", "internal/bytealg.IndexString"], unfollowed := true, recurses := true, named := ["internal/bytealg.MaxLen"], apart := false, narrowed := true }
def VerifyTellsUptoSaid : Prop := verifyTellsUptoRow.holds Tryz.pinned (OpenSpec.upto verifyTellsSpec)

/-- 'ostlerlaw36.VerifyWrong', WHERE WHAT IT READS IS OF BULK AT MOST 1048576: true; the input reads as it did. -/
def verifyWrongUptoRow : OpenClaim := { program := "yteblddnoegbalaagreat", sum := "43da74723fc27828d8dbbfed92f8d31143de40fd36238587516215c609eaad24", func := "ostler/ostlerlaw36.VerifyWrong", spec := "verifyWrong", inPlace := ["internal/bytealg.IndexByteString", "internal/bytealg.IndexString"], unfollowed := true, recurses := true, named := ["internal/bytealg.MaxLen"], apart := false, narrowed := true }
def VerifyWrongUptoSaid : Prop := verifyWrongUptoRow.holds Tryz.pinned (OpenSpec.upto verifyWrongSpec)

/-- 'ostlerlaw36.VerifySound', WHERE WHAT IT READS IS OF BULK AT MOST 1048576: true; the input reads as it did. -/
def verifySoundUptoRow : OpenClaim := { program := "yteblddnoegbalaagreat", sum := "43da74723fc27828d8dbbfed92f8d31143de40fd36238587516215c609eaad24", func := "ostler/ostlerlaw36.VerifySound", spec := "verifySound", inPlace := ["internal/bytealg.IndexByteString", "internal/bytealg.IndexString"], unfollowed := true, recurses := true, named := ["internal/bytealg.MaxLen"], apart := false, narrowed := true }
def VerifySoundUptoSaid : Prop := verifySoundUptoRow.holds Tryz.pinned (OpenSpec.upto verifySoundSpec)

/-- 'ostlerlaw36.VerifyChange', WHERE WHAT IT READS IS OF BULK AT MOST 1048576: true; the input reads as it did. -/
def verifyChangeUptoRow : OpenClaim := { program := "yteblddnoegbalaagreat", sum := "43da74723fc27828d8dbbfed92f8d31143de40fd36238587516215c609eaad24", func := "ostler/ostlerlaw36.VerifyChange", spec := "verifyChange", inPlace := ["internal/bytealg.IndexByteString", "internal/bytealg.IndexString"], unfollowed := true, recurses := true, named := ["internal/bytealg.MaxLen"], apart := false, narrowed := true }
def VerifyChangeUptoSaid : Prop := verifyChangeUptoRow.holds Tryz.pinned (OpenSpec.upto verifyChangeSpec)

/-- 'ostlerlaw36.VerifyValid', WHERE WHAT IT READS IS OF BULK AT MOST 1048576: true; the input reads as it did. -/
def verifyValidUptoRow : OpenClaim := { program := "yteblddnoegbalaagreat", sum := "43da74723fc27828d8dbbfed92f8d31143de40fd36238587516215c609eaad24", func := "ostler/ostlerlaw36.VerifyValid", spec := "verifyValid", inPlace := ["internal/bytealg.IndexByteString", "internal/bytealg.IndexString"], unfollowed := true, recurses := true, named := ["internal/bytealg.MaxLen"], apart := false, narrowed := true }
def VerifyValidUptoSaid : Prop := verifyValidUptoRow.holds Tryz.pinned (OpenSpec.upto verifyValidSpec)

end Rows
end Go.Proofs.YteblddnoegbalaaGreat
