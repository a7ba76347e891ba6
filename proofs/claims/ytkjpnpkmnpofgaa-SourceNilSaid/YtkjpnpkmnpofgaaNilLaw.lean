/- ostlerlaw33.SourceNil returns true and writes nothing that was there. -/
import Derived.Test.YtkjpnpkmnpofgaaAwake2
namespace Go.Proofs.Ytkjpnpkmnpofgaa
open Go.RowKit

def oneP : GP := ⟨1, [], [], [], []⟩
theorem one_valid : validE oneP ≠ 0 := by
  have : validE oneP = 170 := by kernel_rfl
  rw [this]; omega

theorem one_prog (w : World) : ProgIs w (.agg #[.int .i64 1, nilS, nilS, nilS, nilS]) oneP :=
  ⟨_, _, _, _, rfl, by show InI 1; unfold InI; omega, ⟨⟨none, 0, rfl, Nat.le_refl _, by unfold maxLen; omega, by simp [oneP], fun h => absurd h (by simp [oneP])⟩, fun i => by simp [oneP, ixS]; exact Nat.zero_le _⟩, nil_ints w,
    ⟨fun _ => nilS, fun _ => nilS, fun _ => nilS, ⟨none, 0, rfl, Nat.le_refl _, by unfold maxLen; omega, by simp [oneP], fun h => absurd h (by simp [oneP])⟩, fun i hi => absurd hi (by simp [oneP])⟩,
    ⟨fun _ => nilS, fun _ => nilS, ⟨none, 0, rfl, Nat.le_refl _, by unfold maxLen; omega, by simp [oneP], fun h => absurd h (by simp [oneP])⟩, fun i hi => absurd hi (by simp [oneP])⟩⟩

set_option maxHeartbeats 4000000 in
set_option maxRecDepth 100000 in
theorem nil_law (va : Value) (x : Int) (w : World) : Calls Try.prog 6 #[va, .int .i64 x] w fun e w' => e = .returned (.bool true) ∧ Below w.heap.size w w' := by
  have hal : Below w.heap.size w ((w.alloc (.cells #[.int .i64 0, .slice none 0 0, .slice none 0 0, .slice none 0 0, .slice none 0 0, .map none, .map none, .map none, .map none, .int .i64 0, .slice none 0 0] 54)).alloc (.cells #[.pointer none, .pointer (some ⟨w.heap.size, 0, none⟩)] 31)) := bal (bal (Below.refl _ _) _) _
  have b2 := Blk.new2 w (.cells #[.int .i64 0, .slice none 0 0, .slice none 0 0, .slice none 0 0, .slice none 0 0, .map none, .map none, .map none, .map none, .int .i64 0, .slice none 0 0] 54) [.pointer none, .pointer (some ⟨w.heap.size, 0, none⟩)] 31
  have b1 : Empty w.heap.size ((w.alloc (.cells #[.int .i64 0, .slice none 0 0, .slice none 0 0, .slice none 0 0, .slice none 0 0, .map none, .map none, .map none, .map none, .int .i64 0, .slice none 0 0] 54)).alloc (.cells #[.pointer none, .pointer (some ⟨w.heap.size, 0, none⟩)] 31)) := (Blk.new w [.int .i64 0, .slice none 0 0, .slice none 0 0, .slice none 0 0, .slice none 0 0, .map none, .map none, .map none, .map none, .int .i64 0, .slice none 0 0] 54).alloc _
  have HAL := Lib.hid hal
  have HB2 := Lib.hid b2
  have HB1 := Lib.hid b1
  clear hal b2 b1
  go_enter Try.func6, Try.ntmps6
  go_wp2_with fail
  go_loop [15] (fun i => ∃ k : Nat, k ≤ 2 ∧ i = .int .i64 k) (fun i => 2 - (intOf i).toNat)
  case atStart => exact ⟨0, by omega, rfl⟩
  case round =>
    obtain ⟨k, hk, rfl⟩ := hrel
    generalize (w.alloc (.cells #[.int .i64 0, .slice none 0 0, .slice none 0 0, .slice none 0 0, .slice none 0 0, .map none, .map none, .map none, .map none, .int .i64 0, .slice none 0 0] 54)).alloc (.cells #[.pointer none, .pointer (some ⟨w.heap.size, 0, none⟩)] 31) = W at HAL HB1 HB2 ⊢
    have kc := HB2.out.cell
    rcases (show k = 0 ∨ k = 1 ∨ k = 2 by omega) with rfl | rfl | rfl
    · go_wp2_with (first | (go_at_call 15; (with_reducible refine (source_nil x _).mono ?_); rintro e w1 ⟨rfl, rfl⟩) | (go_at_call 14; (with_reducible refine (find_nil _ _).mono ?_); rintro e w1 ⟨rfl, rfl⟩))
      first
        | (go_round
           case rel => (exact ⟨1, by omega, by go_num⟩)
           case measure => (simp [intOf]))
        | (refine ⟨?_, ?_⟩
           · (exact ⟨1, by omega, by go_num⟩)
           · (simp [intOf]))
    · go_wp2_with (first | (go_at_call 15; (with_reducible refine (source_empty _ x _ HB1.out).mono ?_); rintro e w1 ⟨rfl, rfl⟩) | (go_at_call 14; (with_reducible refine (find_empty _ _ _ HB1.out).mono ?_); rintro e w1 ⟨rfl, rfl⟩))
      first
        | (go_round
           case rel => (exact ⟨2, by omega, by go_num⟩)
           case measure => (simp [intOf]))
        | (refine ⟨?_, ?_⟩
           · (exact ⟨2, by omega, by go_num⟩)
           · (simp [intOf]))
    · have HN : Hid (Calls Try.prog 12 #[.agg #[.int .i64 1, .slice none 0 0, .slice none 0 0, .slice none 0 0, .slice none 0 0]] W fun e w' => e = .returned (.tuple #[.pointer none, .int .i64 2]) ∧ Below W.heap.size W w') := Lib.hid (newInv _ oneP W (one_prog W) one_valid)
      go_wp2_with (first
        | (go_at_call 12; (with_reducible refine (HN.out).mono ?_); rintro e w1 ⟨rfl, hb1⟩)
        | (go_at_call 11; (with_reducible refine (awake_any _).mono ?_); rintro e w2 ⟨rfl, hb2⟩))
      go_ret
      exact ⟨rfl, bon (bon HAL.out hb1) hb2⟩

end Go.Proofs.Ytkjpnpkmnpofgaa
