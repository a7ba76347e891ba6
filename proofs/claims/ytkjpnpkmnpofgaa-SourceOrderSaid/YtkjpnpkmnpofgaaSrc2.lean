/- founded, off, Source. -/
import Derived.Test.YtkjpnpkmnpofgaaSrcSt
namespace Go.Proofs.Ytkjpnpkmnpofgaa
open Go.RowKit

def offB (a : List Int) (l : Int) : Bool := decide (l.natAbs ≤ a.length) && decide (ix a (l.natAbs - 1) ≠ 0) && (decide (0 < ix a (l.natAbs - 1)) != decide (0 < l))

theorem Src.lookF {m : Nat} {s : SP} {p : GP} {F K : Int → Int} {clock : Int} {a : List Int} {w : World} (h : Src m s p F K clock a w) (x : Int) :
    (Instr.lookup 48 (.map (some s.bf)) (.int .i64 x) false).run Try.prog w = .ok (.int .i64 (F x)) w := by
  have := h.frm.lookup kvInt Try.underlying48 Try.underlying3 (Try.zeroValue3 w) x
  rw [mapI_getD] at this
  exact this

theorem Src.lookK {m : Nat} {s : SP} {p : GP} {F K : Int → Int} {clock : Int} {a : List Int} {w : World} (h : Src m s p F K clock a w) (x : Int) :
    (Instr.lookup 48 (.map (some s.bk)) (.int .i64 x) false).run Try.prog w = .ok (.int .i64 (K x)) w := by
  have := h.rank.lookup kvInt Try.underlying48 Try.underlying3 (Try.zeroValue3 w) x
  rw [mapI_getD] at this
  exact this

theorem founded_any {m : Nat} {s : SP} {p : GP} {F K : Int → Int} {clock : Int} {a : List Int} {w : World} (h : Src m s p F K clock a w) (x : Int) :
    Calls Try.prog 42 #[.pointer (some ⟨s.b, 0, none⟩), .int .i64 x] w fun e w' => e = .returned (.bool (decide (0 < F x))) ∧ w = w' := by
  have hl := h.lookF x
  obtain ⟨va, ho, -⟩ := h.obj
  have ko := ho.cell
  have hf := h.fitF x
  unfold InI at hf
  clear ho h
  go_enter Try.func42, Try.ntmps42
  go_wp2
  go_ret
  exact ⟨rfl, rfl⟩

theorem offB_pos (a : List Int) (n : Nat) (hn : 1 ≤ n) : offB a n = (decide (n ≤ a.length) && decide (ix a (n - 1) ≠ 0) && decide (¬ 0 < ix a (n - 1))) := by
  unfold offB
  rw [Int.natAbs_natCast]
  have : decide ((0 : Int) < n) = true := decide_eq_true (by omega)
  rw [this]
  by_cases h : 0 < ix a (n - 1) <;> simp [h]
theorem offB_neg (a : List Int) (n : Nat) : offB a (-(n : Int)) = (decide (n ≤ a.length) && decide (ix a (n - 1) ≠ 0) && decide (0 < ix a (n - 1))) := by
  unfold offB
  rw [Int.natAbs_neg, Int.natAbs_natCast]
  have : decide ((0 : Int) < -(n : Int)) = false := decide_eq_false (by omega)
  rw [this]
  by_cases h : 0 < ix a (n - 1) <;> simp [h]

set_option maxHeartbeats 1000000 in
theorem off_any {m : Nat} {s : SP} {p : GP} {F K : Int → Int} {clock : Int} {a : List Int} {w : World} (h : Src m s p F K clock a w) (l : Int) (hl0 : l ≠ 0) (hl : -4611686018427387904 ≤ l ∧ l ≤ 4611686018427387904) :
    Calls Try.prog 43 #[.pointer (some ⟨s.b, 0, none⟩), .int .i64 l] w fun e w' => e = .returned (.bool (offB a l)) ∧ w = w' := by
  obtain ⟨va, ho, Ha, Ta, -, -, hva⟩ := h.obj
  have ko := ho.cell
  obtain ⟨⟨ad, cap, rfl, hcap, hmx, -, hc⟩, hb8⟩ := hva w (Same.refl _ _ _ _) (Nat.le_refl _)
  clear ho hva h
  have e8 : a.length < 9223372036854775808 := by unfold maxLen at hmx; omega
  obtain ⟨n, hn1, hln⟩ : ∃ n : Nat, 1 ≤ n ∧ (l = n ∨ l = -(n : Int)) := ⟨l.natAbs, by omega, by omega⟩
  have hneg : - -(n : Int) = n := by omega
  by_cases h1 : n ≤ a.length
  · obtain ⟨b0, off0, rfl, hbl, hcc⟩ := hc (by omega)
    have hk : w.cell? ⟨b0, off0 + (n - 1), none⟩ = some (.int .i8 (ix a (n - 1))) := hcc (n - 1) (by omega)
    have hb := hb8 (n - 1)
    clear hcc hc hb8
    have HP := Lib.hid (offB_pos a n hn1)
    have HN := Lib.hid (offB_neg a n)
    generalize ix a (n - 1) = y at *
    rcases hln with rfl | rfl
    · by_cases y0 : y = 0
      · have HF : Hid (offB a n = false) := Lib.hid (by rw [HP.out]; simp [y0])
        subst y0
        go_enter Try.func43, Try.ntmps43
        go_wp2
        go_ret
        exact ⟨ret_bool (by rw [HF.out]; try (simp <;> omega)), rfl⟩
      · by_cases yp : 0 < y
        · have HF : Hid (offB a n = false) := Lib.hid (by rw [HP.out]; simp [yp])
          go_enter Try.func43, Try.ntmps43
          go_wp2
          go_ret
          exact ⟨ret_bool (by rw [HF.out]; try (simp <;> omega)), rfl⟩
        · have HF : Hid (offB a n = true) := Lib.hid (by rw [HP.out]; simp [yp, y0, h1])
          go_enter Try.func43, Try.ntmps43
          go_wp2
          go_ret
          exact ⟨ret_bool (by rw [HF.out]; try (simp <;> omega)), rfl⟩
    · by_cases y0 : y = 0
      · have HF : Hid (offB a (-(n : Int)) = false) := Lib.hid (by rw [HN.out]; simp [y0])
        subst y0
        go_enter Try.func43, Try.ntmps43
        go_wp2
        go_ret
        exact ⟨ret_bool (by rw [HF.out]; try (simp <;> omega)), rfl⟩
      · by_cases yp : 0 < y
        · have HF : Hid (offB a (-(n : Int)) = true) := Lib.hid (by rw [HN.out]; simp [yp, y0, h1])
          go_enter Try.func43, Try.ntmps43
          go_wp2
          go_ret
          exact ⟨ret_bool (by rw [HF.out]; try (simp <;> omega)), rfl⟩
        · have HF : Hid (offB a (-(n : Int)) = false) := Lib.hid (by rw [HN.out]; simp [yp])
          go_enter Try.func43, Try.ntmps43
          go_wp2
          go_ret
          exact ⟨ret_bool (by rw [HF.out]; try (simp <;> omega)), rfl⟩
  · rcases hln with rfl | rfl
    · have HF : Hid (offB a n = false) := Lib.hid (by rw [offB_pos a n hn1]; simp [h1])
      go_enter Try.func43, Try.ntmps43
      go_wp2
      go_ret
      exact ⟨ret_bool (by rw [HF.out]; try (simp <;> omega)), rfl⟩
    · have HF : Hid (offB a (-(n : Int)) = false) := Lib.hid (by rw [offB_neg a n]; simp [h1])
      go_enter Try.func43, Try.ntmps43
      go_wp2
      go_ret
      exact ⟨ret_bool (by rw [HF.out]; try (simp <;> omega)), rfl⟩

end Go.Proofs.Ytkjpnpkmnpofgaa
