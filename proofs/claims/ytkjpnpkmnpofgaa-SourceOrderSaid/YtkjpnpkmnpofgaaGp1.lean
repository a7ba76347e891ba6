/- Contracts of package gprog's checks: ordered, increasing, weights. -/
import Derived.Test.YtkjpnpkmnpofgaaCmp
namespace Go.Proofs.Ytkjpnpkmnpofgaa
open Go.RowKit

/-- The check of one place of an ordered list of literals. -/
def okAt (l : List Int) (n : Int) (i : Nat) : Bool := litB (ix l i) n && (i == 0 || decide (ordI (ix l (i - 1)) (ix l i) < 0))
def orderedB (l : List Int) (n : Int) : Bool := allR l.length (okAt l n)

theorem litB_bd {x n : Int} (h : litB x n = true) (hn : 0 ≤ n ∧ n ≤ 4611686018427387904) : -4611686018427387904 ≤ x ∧ x ≤ 4611686018427387904 := by
  simp [litB] at h; omega

theorem ordered_any (v : Value) (l : List Int) (n : Int) (w : World) (h : Ints w v l) (hn : 0 ≤ n ∧ n ≤ 4611686018427387904) :
    Calls Try.prog 48 #[v, .int .i64 n] w fun e w' => e = .returned (.bool (orderedB l n)) ∧ Below w.heap.size w w' := by
  obtain ⟨a, cap, rfl, hle, hB, -, hcell⟩ := h.form
  clear h
  go_enter Try.func48, Try.ntmps48
  go_wp2
  go_loopw [9] (fun i wr => ∃ k : Nat, k ≤ l.length ∧ i = .int .i64 k ∧ (∀ j, j < k → okAt l n j = true) ∧ Below w.heap.size w wr) (fun i _ => l.length - (intOf i).toNat)
  case atStart => exact ⟨0, by omega, rfl, by intro j hj; omega, Below.refl _ _⟩
  case round =>
    obtain ⟨k, hk, rfl, hok, hb⟩ := hrel
    have HOK := Lib.hid hok
    clear hok
    by_cases hlt : k < l.length
    · obtain ⟨b, off, rfl, hbl, hc⟩ := hcell (by omega)
      have hk1 : wr.cell? ⟨b, off + k, none⟩ = some (.int .i64 (ix l k)) := (bcell hb _ _ hbl).trans (hc k hlt)
      have hk2 : wr.cell? ⟨b, off + (k - 1), none⟩ = some (.int .i64 (ix l (k - 1))) := (bcell hb _ _ hbl).trans (hc (k - 1) (by omega))
      clear hc hcell
      cases hl : litB (ix l k) n with
      | false =>
        go_wp2_with (go_at_call 74; refine (literal_any _ _ _ (by omega)).mono ?_; rintro e w' ⟨rfl, rfl⟩)
        go_ret
        exact ⟨ret_bool (allR_false k hlt (by simp [okAt, hl])).symm, hb⟩
      | true =>
        have b1 := litB_bd hl hn
        by_cases hk0 : k = 0
        · have hfin : okAt l n k = true := by unfold okAt; rw [hl]; simp [hk0]
          have HF := Lib.hid hfin
          have hkp : ¬ (0 : Int) < (k : Int) := by omega
          clear hfin hk0
          go_wp2_with (go_at_call 74; refine (literal_any _ _ _ (by omega)).mono ?_; rintro e w' ⟨rfl, rfl⟩)
          go_roundw
          case rel => exact ⟨k + 1, by omega, by go_num, lt_succ_all HOK.out HF.out, hb⟩
          case measure => simp [intOf]; omega
        · have hkp : (0 : Int) < (k : Int) := by omega
          have hkn : (0 : Int) ≤ (k : Int) - 1 := by omega
          have hkm : ((k : Int) - 1).toNat = k - 1 := by omega
          have b2 := litB_bd (x := ix l (k - 1)) (n := n) (by have := HOK.out (k - 1) (by omega); simp [okAt] at this; exact this.1) hn
          have hfin : okAt l n k = decide (ordI (ix l (k - 1)) (ix l k) < 0) := by simp [okAt, hl, hk0]
          have HF := Lib.hid hfin
          clear hfin
          by_cases ho : ordI (ix l (k - 1)) (ix l k) < 0
          all_goals
            go_wp2_with (first
              | (go_at_call 74; refine (literal_any _ _ _ (by omega)).mono ?_; rintro e w' ⟨rfl, rfl⟩)
              | (go_at_call 75; refine (order_any _ _ _ (by omega) (by omega)).mono ?_; rintro e w1 ⟨rfl, hb1⟩))
          · go_roundw
            case rel => exact ⟨k + 1, by omega, by go_num, lt_succ_all HOK.out (by rw [HF.out]; simp [ho]), hb.trans (hb1.mono hb.size)⟩
            case measure => simp [intOf]; omega
          · go_ret
            exact ⟨ret_bool (allR_false k hlt (by rw [HF.out]; simp [ho])).symm, hb.trans (hb1.mono hb.size)⟩
    · have HL : Go.RowKit.Hid (k = l.length) := Lib.hid (by omega)
      go_wp2
      go_ret
      exact ⟨ret_bool (allR_true (by rw [← HL.out]; exact HOK.out)).symm, hb⟩

end Go.Proofs.Ytkjpnpkmnpofgaa
