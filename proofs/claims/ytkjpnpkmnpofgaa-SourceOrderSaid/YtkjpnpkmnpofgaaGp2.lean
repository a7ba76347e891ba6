/- Contracts of slices.Min and gprog.increasing, weights. -/
import Derived.Test.YtkjpnpkmnpofgaaGp1
namespace Go.Proofs.Ytkjpnpkmnpofgaa
open Go.RowKit

def IsMin (l : List Int) (m : Int) : Prop := (∀ i, i < l.length → m ≤ ix l i) ∧ ∃ i, i < l.length ∧ m = ix l i

def MinPost (l : List Int) (w : World) (e : Ending) (w' : World) : Prop := ∃ m : Int, e = .returned (.int .i64 m) ∧ IsMin l m ∧ w = w'

theorem min_any (v : Value) (l : List Int) (w : World) (h : Ints w v l) (h0 : 0 < l.length) :
    Calls Try.prog 92 #[v] w (MinPost l w) := by
  obtain ⟨a, cap, rfl, hle, hB, -, hcell⟩ := h.form
  clear h
  obtain ⟨b, off, rfl, hbl, hc⟩ := hcell h0
  have hk0 := hc 0 h0
  simp only [Nat.add_zero] at hk0
  clear hcell
  have HC := Lib.hid hc
  clear hc
  go_enter Try.func92, Try.ntmps92
  go_wp2
  go_loop [3, 4] (fun m i => ∃ (k : Nat) (x : Int), 1 ≤ k ∧ k ≤ l.length ∧ i = .int .i64 k ∧ m = .int .i64 x ∧ (∀ j, j < k → x ≤ ix l j) ∧ ∃ j, j < l.length ∧ x = ix l j) (fun _ i => l.length - (intOf i).toNat)
  case atStart =>
    refine ⟨1, ix l 0, by omega, by omega, rfl, rfl, ?_, 0, h0, rfl⟩
    exact fun j hj => by obtain rfl : j = 0 := by omega
                         exact Int.le_refl _
  -- j hj; obtain rfl : j = 0 := by omega; exact Int.le_refl _, 0, h0, rfl⟩⟩
  case round =>
    obtain ⟨k, x, hk0, hk, rfl, rfl, hmin, hex⟩ := hrel
    have HM := Lib.hid hmin
    have HE := Lib.hid hex
    clear hmin hex
    by_cases hlt : k < l.length
    · have hk1 := HC.out k hlt
      go_wp2
      all_goals
        go_round
        case rel =>
          refine ⟨k + 1, _, by omega, by omega, by go_num, rfl, lt_succ_all (fun j hj => ?_) ?_, ?_⟩
          · have := HM.out j hj; omega
          · omega
          · split
            · exact ⟨k, hlt, rfl⟩
            · exact HE.out
        case measure => simp [intOf]; omega
    · go_wp2
      go_ret
      exact ⟨x, rfl, ⟨fun i hi => HM.out i (by omega), HE.out⟩, rfl⟩

def increasingB (l : List Int) (n : Int) : Bool := orderedB l n && allR l.length (fun i => decide (0 < ix l i))

theorem increasing_any (v : Value) (l : List Int) (n : Int) (w : World) (h : Ints w v l) (hn : 0 ≤ n ∧ n ≤ 4611686018427387904) :
    Calls Try.prog 73 #[v, .int .i64 n] w fun e w' => e = .returned (.bool (increasingB l n)) ∧ Below w.heap.size w w' := by
  obtain ⟨a, cap, rfl, hle, hB, hi, -⟩ := h.form
  have H := Lib.hid hi
  clear h hi
  cases ho : orderedB l n with
  | false =>
    go_enter Try.func73, Try.ntmps73
    go_wp2_with (go_at_call 48; refine (ordered_any _ l n _ H.out hn).mono ?_; rintro e w1 ⟨rfl, hb1⟩)
    go_ret
    exact ⟨ret_bool (by simp [increasingB, ho]), hb1⟩
  | true =>
    by_cases h0 : l.length = 0
    · have hz : ((l.length : Int) == 0) = true := by simp [h0]
      have HZ := Lib.hid h0
      clear h0
      go_enter Try.func73, Try.ntmps73
      go_wp2_with (go_at_call 48; refine (ordered_any _ l n _ H.out hn).mono ?_; rintro e w1 ⟨rfl, hb1⟩)
      go_ret
      exact ⟨ret_bool (by simp [increasingB, ho, HZ.out, allR]), hb1⟩
    · have hz : ((l.length : Int) == 0) = false := by simp [h0]
      go_enter Try.func73, Try.ntmps73
      go_wp2_with (first
        | (go_at_call 48; refine (ordered_any _ l n _ H.out hn).mono ?_; rintro e w1 ⟨rfl, hb1⟩)
        | (go_at_call 92; refine (min_any _ l _ (H.out.below hb1) (by omega)).mono ?_; rintro e w2 ⟨m, rfl, hm, rfl⟩))
      go_ret
      refine ⟨ret_bool ?_, hb1⟩
      rw [increasingB, ho, Bool.true_and]
      by_cases hm0 : 0 < m
      · rw [allR_true (fun j hj => by have := hm.1 j hj; simp; omega)]
        simp [hm0]
      · obtain ⟨i, hi, e⟩ := hm.2
        rw [allR_false i hi (by simp; omega)]
        simp; omega

/-- The weights: each at least 1, their sum at most 1048576. -/
def sumTo (l : List Int) : Nat → Int
  | 0 => 0
  | k + 1 => sumTo l k + ix l k
def weightsB (l : List Int) (k : Int) : Bool := allR l.length (fun i => decide (1 ≤ ix l i ∧ ix l i ≤ 1048576 - sumTo l i)) && decide ((l.length : Int) = k)

theorem weights_any (v : Value) (l : List Int) (n : Int) (w : World) (h : Ints w v l) :
    Calls Try.prog 49 #[v, .int .i64 n] w fun e w' => e = .returned (.bool (weightsB l n)) ∧ w = w' := by
  obtain ⟨a, cap, rfl, hle, hB, -, hcell⟩ := h.form
  clear h
  go_enter Try.func49, Try.ntmps49
  go_wp2
  go_loop [5, 10] (fun s i => Hid (∃ (k : Nat), k ≤ l.length ∧ i = .int .i64 k ∧ s = .int .i64 (sumTo l k) ∧ (∀ j, j < k → 1 ≤ ix l j ∧ ix l j ≤ 1048576 - sumTo l j) ∧ 0 ≤ sumTo l k ∧ sumTo l k ≤ 1048576)) (fun _ i => l.length - (intOf i).toNat)
  case atStart => exact Lib.hid ⟨0, by omega, rfl, rfl, fun j hj => absurd hj (Nat.not_lt_zero _), by simp [sumTo], by simp [sumTo]⟩
  case round =>
    obtain ⟨k, hk, rfl, rfl, hall, hs0, hs1⟩ := hrel
    have HA := Lib.hid hall
    clear hall
    by_cases hlt : k < l.length
    · obtain ⟨b, off, rfl, hbl, hc⟩ := hcell (by omega)
      have hk1 := hc k hlt
      clear hc hcell
      by_cases h1 : 1 ≤ ix l k
      · by_cases h2 : ix l k ≤ 1048576 - sumTo l k
        · go_wp2
          first
            | (go_round
               case rel => (exact Lib.hid ⟨k + 1, by omega, by go_num, rfl, lt_succ_all HA.out ⟨h1, h2⟩, by rw [sumTo]; omega, by rw [sumTo]; omega⟩)
               case measure => (simp [intOf]; omega))
            | (refine ⟨?_, ?_⟩
               · (exact Lib.hid ⟨k + 1, by omega, by go_num, rfl, lt_succ_all HA.out ⟨h1, h2⟩, by rw [sumTo]; omega, by rw [sumTo]; omega⟩)
               · (simp [intOf]; omega))
        · go_wp2
          go_ret
          refine ⟨ret_bool ?_, rfl⟩
          rw [weightsB, allR_false k hlt (by simp [h1]; omega)]; rfl
      · go_wp2
        go_ret
        refine ⟨ret_bool ?_, rfl⟩
        rw [weightsB, allR_false k hlt (by simp; omega)]; rfl
    · have HL : Hid (k = l.length) := Lib.hid (by omega)
      go_wp2
      go_ret
      refine ⟨ret_bool ?_, rfl⟩
      rw [weightsB, allR_true (fun j hj => by simpa using HA.out j (by rw [HL.out]; exact hj))]
      rw [Bool.true_and, Bool.eq_iff_iff]; simp

end Go.Proofs.Ytkjpnpkmnpofgaa
