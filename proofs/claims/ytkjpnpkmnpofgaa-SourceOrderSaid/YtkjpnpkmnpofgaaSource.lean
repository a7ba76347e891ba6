/- Source; Find and Source of Sources that do not exist. -/
import Derived.Test.YtkjpnpkmnpofgaaFind
namespace Go.Proofs.Ytkjpnpkmnpofgaa
open Go.RowKit

/-- An object without anything: Sources{}. -/
def Empty (b : Nat) (w : World) : Prop := Blk w b [.int .i64 0, nilS, nilS, nilS, nilS, .map none, .map none, .map none, .map none, .int .i64 0, nilS] 54

set_option maxHeartbeats 1000000 in
theorem find_nil (va : Value) (w : World) : Calls Try.prog 14 #[.pointer none, va] w fun e w' => e = .returned (.slice none 0 0) ∧ w = w' := by
  go_enter Try.func14, Try.ntmps14
  go_wp2
  go_ret
  exact ⟨rfl, rfl⟩

set_option maxHeartbeats 1000000 in
theorem find_empty (b : Nat) (va : Value) (w : World) (h : Empty b w) : Calls Try.prog 14 #[.pointer (some ⟨b, 0, none⟩), va] w fun e w' => e = .returned (.slice none 0 0) ∧ w = w' := by
  have ko := Blk.cell h
  clear h
  have qm : ∀ (w : World) (r : Option Nat), (binOp .eql 48 (.map r) (.map none)).run Try.prog w = .ok (.bool r.isNone) w := fun w r => run_eql_map_nil w _ _ _ r Try.underlying48
  go_enter Try.func14, Try.ntmps14
  go_wp2
  go_ret
  exact ⟨rfl, rfl⟩

set_option maxHeartbeats 1000000 in
theorem source_nil (x : Int) (w : World) : Calls Try.prog 15 #[.pointer none, .int .i64 x] w fun e w' => e = .returned (.tuple #[.int .i64 0, .bool false]) ∧ w = w' := by
  go_enter Try.func15, Try.ntmps15
  go_wp2
  go_ret2
  exact ⟨rfl, rfl⟩

set_option maxHeartbeats 1000000 in
theorem source_empty (b : Nat) (x : Int) (w : World) (h : Empty b w) : Calls Try.prog 15 #[.pointer (some ⟨b, 0, none⟩), .int .i64 x] w fun e w' => e = .returned (.tuple #[.int .i64 0, .bool false]) ∧ w = w' := by
  have ko := Blk.cell h
  clear h
  have qm : ∀ (w : World) (r : Option Nat), (binOp .eql 48 (.map r) (.map none)).run Try.prog w = .ok (.bool r.isNone) w := fun w r => run_eql_map_nil w _ _ _ r Try.underlying48
  go_enter Try.func15, Try.ntmps15
  go_wp2
  go_ret2
  exact ⟨rfl, rfl⟩

section
variable {m : Nat} {s : SP} {p : GP} {F K : Int → Int} {clock : Int} {a : List Int} {w : World}

set_option maxHeartbeats 1000000 in
theorem source_any (h : Src m s p F K clock a w) (x : Int) (hF0 : 0 ≤ F x) :
    Calls Try.prog 15 #[.pointer (some ⟨s.b, 0, none⟩), .int .i64 x] w fun e w' => e = .returned (.tuple #[.int .i64 (if 0 < F x then F x - 1 else 0), .bool (decide (0 < F x))]) ∧ w = w' := by
  have HS := Lib.hid h
  obtain ⟨va, ho, -⟩ := h.obj
  have ko := ho.cell
  have hl := h.lookF x
  have hf := h.fitF x
  unfold InI at hf
  clear h ho
  have qm : ∀ (w : World) (r : Option Nat), (binOp .eql 48 (.map r) (.map none)).run Try.prog w = .ok (.bool r.isNone) w := fun w r => run_eql_map_nil w _ _ _ r Try.underlying48
  by_cases hF : 0 < F x
  · have hF' : decide (0 < F x) = true := decide_eq_true hF
    rw [if_pos hF, hF']
    go_enter Try.func15, Try.ntmps15
    go_wp2_with (go_at_call 42; refine (founded_any HS.out x).mono ?_; rintro e w1 ⟨rfl, rfl⟩)
    go_ret2
    exact ⟨rfl, rfl⟩
  · have hF' : decide (0 < F x) = false := decide_eq_false hF
    rw [if_neg hF, hF']
    go_enter Try.func15, Try.ntmps15
    go_wp2_with (go_at_call 42; refine (founded_any HS.out x).mono ?_; rintro e w1 ⟨rfl, rfl⟩)
    go_ret2
    exact ⟨rfl, rfl⟩

end

end Go.Proofs.Ytkjpnpkmnpofgaa
