/- The contract of gprog.Rule. -/
import Derived.Test.YtkjpnpkmnpofgaaGp2
import Derived.Test.YtkjpnpkmnpofgaaData
namespace Go.Proofs.Ytkjpnpkmnpofgaa
open Go.RowKit

def ruleE (r : GR) (n : Int) : Int :=
  if n < 0 ∨ 4000 < n then 2
  else if increasingB r.head n = false ∨ (r.choice = true ∧ r.head.length = 0) then 172
  else if orderedB r.body n = false then 173
  else if (r.sum = false ∧ (0 < r.w.length ∨ r.bound ≠ 0)) ∨ (r.sum = true ∧ (weightsB r.w r.body.length = false ∨ r.bound < 0 ∨ 1048576 < r.bound)) then 174
  else 0

set_option maxHeartbeats 1000000 in
theorem rule_any (v : Value) (r : GR) (n : Int) (w : World) (h : RuleIs w v r) :
    Calls Try.prog 47 #[v, .int .i64 n] w fun e w' => e = .returned (.int .i64 (ruleE r n)) ∧ Below w.heap.size w w' := by
  obtain ⟨vh, vb, vw, rfl, hh, hbd, hw, hbi⟩ := h
  have hal := bal (Below.refl w.heap.size w) (.cells #[.bool r.choice, vh, .bool r.sum, .int .i64 r.bound, vb, vw] 44)
  have HH := Lib.hid (hh.below hal)
  have HB := Lib.hid (hbd.below hal)
  have HW := Lib.hid (hw.below hal)
  obtain ⟨a1, c1, rfl, -, hl1, -, -⟩ := hh.form
  obtain ⟨a2, c2, rfl, -, hl2, -, -⟩ := hbd.form
  obtain ⟨a3, c3, rfl, -, hl3, -, -⟩ := hw.form
  clear hh hbd hw
  have hun := fun (x : Int) (e : ruleE r n = x) => e
  obtain ⟨ch, hd, sm, bd, bo, wt⟩ := r
  simp only at *
  have HU := Lib.hid hun
  clear hun
  by_cases hn : n < 0 ∨ 4000 < n
  · have HF : Hid (_ = (2 : Int)) := Lib.hid (HU.out 2 (if_pos hn))
    by_cases hn1 : n < 0
    · go_enter Try.func47, Try.ntmps47
      go_wp2
      go_ret
      exact ⟨ret_int HF.out.symm, hal⟩
    · have hn2 : 4000 < n := by omega
      go_enter Try.func47, Try.ntmps47
      go_wp2
      go_ret
      exact ⟨ret_int HF.out.symm, hal⟩
  have hn1 : ¬ n < 0 := by omega
  have hn2 : ¬ 4000 < n := by omega
  cases hi : increasingB hd n with
  | false =>
    have HF : Hid (_ = (172 : Int)) := Lib.hid (HU.out 172 (by simp [ruleE, hn, hi]))
    go_enter Try.func47, Try.ntmps47
    go_wp2_with (first
                  | (go_at_call 73; refine (increasing_any _ _ n _ HH.out (by omega)).mono ?_; rintro e w1 ⟨rfl, hb1⟩; have hc1 := bcell hb1)
                  | (go_at_call 48; refine (ordered_any _ _ n _ (HB.out.below hb1) (by omega)).mono ?_; rintro e w2 ⟨rfl, hb2⟩; have hz2 : w.heap.size < w1.heap.size := (by have := hb1.size; simp at this; omega); have hc2 := bcell hb2)
                  | (go_at_call 49; refine (weights_any _ _ _ _ ((HW.out.below hb1).below hb2)).mono ?_; rintro e w3 ⟨rfl, rfl⟩))
    go_ret
    exact ⟨ret_int HF.out.symm, bon hal hb1⟩
  | true =>
    by_cases hch : ch = true ∧ hd.length = 0
    · have HF : Hid (_ = (172 : Int)) := Lib.hid (HU.out 172 (by simp [ruleE, hn, hi, hch]))
      obtain ⟨rfl, hch2⟩ := hch
      have hch3 : ((hd.length : Int) == 0) = true := by simp [hch2]
      clear hch2
      go_enter Try.func47, Try.ntmps47
      go_wp2_with (first
                    | (go_at_call 73; refine (increasing_any _ _ n _ HH.out (by omega)).mono ?_; rintro e w1 ⟨rfl, hb1⟩; have hc1 := bcell hb1)
                    | (go_at_call 48; refine (ordered_any _ _ n _ (HB.out.below hb1) (by omega)).mono ?_; rintro e w2 ⟨rfl, hb2⟩; have hz2 : w.heap.size < w1.heap.size := (by have := hb1.size; simp at this; omega); have hc2 := bcell hb2)
                    | (go_at_call 49; refine (weights_any _ _ _ _ ((HW.out.below hb1).below hb2)).mono ?_; rintro e w3 ⟨rfl, rfl⟩))
      go_ret
      exact ⟨ret_int HF.out.symm, bon hal hb1⟩
    have hch' : ch = false ∨ (ch = true ∧ ((hd.length : Int) == 0) = false) := by
      cases ch with
      | false => exact .inl rfl
      | true => exact .inr ⟨rfl, by simp at hch; simp [hch]⟩
    have HC := Lib.hid hch
    clear hch
    cases ho : orderedB bo n with
    | false =>
      have HF : Hid (_ = (173 : Int)) := Lib.hid (HU.out 173 (by simp only [ruleE, if_neg hn, hi, HC.out, ho]; simp))
      rcases hch' with rfl | ⟨rfl, hch3⟩
      all_goals
        go_enter Try.func47, Try.ntmps47
        go_wp2_with (first
                      | (go_at_call 73; refine (increasing_any _ _ n _ HH.out (by omega)).mono ?_; rintro e w1 ⟨rfl, hb1⟩; have hc1 := bcell hb1)
                      | (go_at_call 48; refine (ordered_any _ _ n _ (HB.out.below hb1) (by omega)).mono ?_; rintro e w2 ⟨rfl, hb2⟩; have hz2 : w.heap.size < w1.heap.size := (by have := hb1.size; simp at this; omega); have hc2 := bcell hb2)
                      | (go_at_call 49; refine (weights_any _ _ _ _ ((HW.out.below hb1).below hb2)).mono ?_; rintro e w3 ⟨rfl, rfl⟩))
        go_ret
        exact ⟨ret_int HF.out.symm, bon (bon hal hb1) hb2⟩
    | true =>
      have HG : Hid (ruleE ⟨ch, hd, sm, bd, bo, wt⟩ n = if (sm = false ∧ (0 < wt.length ∨ bd ≠ 0)) ∨ (sm = true ∧ (weightsB wt bo.length = false ∨ bd < 0 ∨ 1048576 < bd)) then 174 else 0) :=
        Lib.hid (by simp only [ruleE, if_neg hn, hi, HC.out, ho]; simp)
      cases sm with
      | false =>
        by_cases hl0 : 0 < wt.length
        · have HF : Hid (_ = (174 : Int)) := Lib.hid (HU.out 174 (by rw [HG.out]; simp [hl0]))
          rcases hch' with rfl | ⟨rfl, hch3⟩
          all_goals
            go_enter Try.func47, Try.ntmps47
            go_wp2_with (first
                          | (go_at_call 73; refine (increasing_any _ _ n _ HH.out (by omega)).mono ?_; rintro e w1 ⟨rfl, hb1⟩; have hc1 := bcell hb1)
                          | (go_at_call 48; refine (ordered_any _ _ n _ (HB.out.below hb1) (by omega)).mono ?_; rintro e w2 ⟨rfl, hb2⟩; have hz2 : w.heap.size < w1.heap.size := (by have := hb1.size; simp at this; omega); have hc2 := bcell hb2)
                          | (go_at_call 49; refine (weights_any _ _ _ _ ((HW.out.below hb1).below hb2)).mono ?_; rintro e w3 ⟨rfl, rfl⟩))
            go_ret
            exact ⟨ret_int HF.out.symm, bon (bon hal hb1) hb2⟩
        · have hl1' : ¬ (0 : Int) < (wt.length : Int) := by omega
          by_cases hb0 : bd = 0
          · have HF : Hid (_ = (0 : Int)) := Lib.hid (HU.out 0 (by rw [HG.out]; simp [hb0]; simpa using hl0))
            subst hb0
            rcases hch' with rfl | ⟨rfl, hch3⟩
            all_goals
              go_enter Try.func47, Try.ntmps47
              go_wp2_with (first
                            | (go_at_call 73; refine (increasing_any _ _ n _ HH.out (by omega)).mono ?_; rintro e w1 ⟨rfl, hb1⟩; have hc1 := bcell hb1)
                            | (go_at_call 48; refine (ordered_any _ _ n _ (HB.out.below hb1) (by omega)).mono ?_; rintro e w2 ⟨rfl, hb2⟩; have hz2 : w.heap.size < w1.heap.size := (by have := hb1.size; simp at this; omega); have hc2 := bcell hb2)
                            | (go_at_call 49; refine (weights_any _ _ _ _ ((HW.out.below hb1).below hb2)).mono ?_; rintro e w3 ⟨rfl, rfl⟩))
              go_ret
              exact ⟨ret_int HF.out.symm, bon (bon hal hb1) hb2⟩
          · have HF : Hid (_ = (174 : Int)) := Lib.hid (HU.out 174 (by rw [HG.out]; simp [hb0]))
            have hb1 : (bd == 0) = false := by simp [hb0]
            have hb2 : (bd != 0) = true := by simp [hb0]
            rcases hch' with rfl | ⟨rfl, hch3⟩
            all_goals
              go_enter Try.func47, Try.ntmps47
              go_wp2_with (first
                            | (go_at_call 73; refine (increasing_any _ _ n _ HH.out (by omega)).mono ?_; rintro e w1 ⟨rfl, hb1⟩; have hc1 := bcell hb1)
                            | (go_at_call 48; refine (ordered_any _ _ n _ (HB.out.below hb1) (by omega)).mono ?_; rintro e w2 ⟨rfl, hb2⟩; have hz2 : w.heap.size < w1.heap.size := (by have := hb1.size; simp at this; omega); have hc2 := bcell hb2)
                            | (go_at_call 49; refine (weights_any _ _ _ _ ((HW.out.below hb1).below hb2)).mono ?_; rintro e w3 ⟨rfl, rfl⟩))
              go_ret
              exact ⟨ret_int HF.out.symm, bon (bon hal ‹_›) ‹_›⟩
      | true =>
        cases hwt : weightsB wt bo.length with
        | false =>
          have HF : Hid (_ = (174 : Int)) := Lib.hid (HU.out 174 (by rw [HG.out, hwt]; simp))
          rcases hch' with rfl | ⟨rfl, hch3⟩
          all_goals
            go_enter Try.func47, Try.ntmps47
            go_wp2_with (first
                          | (go_at_call 73; refine (increasing_any _ _ n _ HH.out (by omega)).mono ?_; rintro e w1 ⟨rfl, hb1⟩; have hc1 := bcell hb1)
                          | (go_at_call 48; refine (ordered_any _ _ n _ (HB.out.below hb1) (by omega)).mono ?_; rintro e w2 ⟨rfl, hb2⟩; have hz2 : w.heap.size < w1.heap.size := (by have := hb1.size; simp at this; omega); have hc2 := bcell hb2)
                          | (go_at_call 49; refine (weights_any _ _ _ _ ((HW.out.below hb1).below hb2)).mono ?_; rintro e w3 ⟨rfl, rfl⟩))
            go_ret
            exact ⟨ret_int HF.out.symm, bon (bon hal ‹_›) ‹_›⟩
        | true =>
          have HF : Hid (_ = if bd < 0 ∨ 1048576 < bd then (174 : Int) else 0) := Lib.hid (HU.out _ (by rw [HG.out, hwt]; simp))
          by_cases hx : bd < 0
          · rw [if_pos (.inl hx)] at HF
            rcases hch' with rfl | ⟨rfl, hch3⟩
            all_goals
              go_enter Try.func47, Try.ntmps47
              go_wp2_with (first
                            | (go_at_call 73; refine (increasing_any _ _ n _ HH.out (by omega)).mono ?_; rintro e w1 ⟨rfl, hb1⟩; have hc1 := bcell hb1)
                            | (go_at_call 48; refine (ordered_any _ _ n _ (HB.out.below hb1) (by omega)).mono ?_; rintro e w2 ⟨rfl, hb2⟩; have hz2 : w.heap.size < w1.heap.size := (by have := hb1.size; simp at this; omega); have hc2 := bcell hb2)
                            | (go_at_call 49; refine (weights_any _ _ _ _ ((HW.out.below hb1).below hb2)).mono ?_; rintro e w3 ⟨rfl, rfl⟩))
              go_ret
              exact ⟨ret_int HF.out.symm, bon (bon hal ‹_›) ‹_›⟩
          by_cases hy : 1048576 < bd
          · rw [if_pos (.inr hy)] at HF
            rcases hch' with rfl | ⟨rfl, hch3⟩
            all_goals
              go_enter Try.func47, Try.ntmps47
              go_wp2_with (first
                            | (go_at_call 73; refine (increasing_any _ _ n _ HH.out (by omega)).mono ?_; rintro e w1 ⟨rfl, hb1⟩; have hc1 := bcell hb1)
                            | (go_at_call 48; refine (ordered_any _ _ n _ (HB.out.below hb1) (by omega)).mono ?_; rintro e w2 ⟨rfl, hb2⟩; have hz2 : w.heap.size < w1.heap.size := (by have := hb1.size; simp at this; omega); have hc2 := bcell hb2)
                            | (go_at_call 49; refine (weights_any _ _ _ _ ((HW.out.below hb1).below hb2)).mono ?_; rintro e w3 ⟨rfl, rfl⟩))
              go_ret
              exact ⟨ret_int HF.out.symm, bon (bon hal ‹_›) ‹_›⟩
          · rw [if_neg (by omega)] at HF
            rcases hch' with rfl | ⟨rfl, hch3⟩
            all_goals
              go_enter Try.func47, Try.ntmps47
              go_wp2_with (first
                            | (go_at_call 73; refine (increasing_any _ _ n _ HH.out (by omega)).mono ?_; rintro e w1 ⟨rfl, hb1⟩; have hc1 := bcell hb1)
                            | (go_at_call 48; refine (ordered_any _ _ n _ (HB.out.below hb1) (by omega)).mono ?_; rintro e w2 ⟨rfl, hb2⟩; have hz2 : w.heap.size < w1.heap.size := (by have := hb1.size; simp at this; omega); have hc2 := bcell hb2)
                            | (go_at_call 49; refine (weights_any _ _ _ _ ((HW.out.below hb1).below hb2)).mono ?_; rintro e w3 ⟨rfl, rfl⟩))
              go_ret
              exact ⟨ret_int HF.out.symm, bon (bon hal ‹_›) ‹_›⟩

end Go.Proofs.Ytkjpnpkmnpofgaa
