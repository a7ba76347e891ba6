/- complete.Body. -/
import Derived.Test.YtkjpnpkmnpofgaaPlain1
namespace Go.Proofs.Ytkjpnpkmnpofgaa
open Go.RowKit

def bodyI (p : GP) (i : Int) : Int := if i < 0 ∨ p.rules.length ≤ i ∨ validE p ≠ 0 then 0 else p.n + 1 + i

set_option maxHeartbeats 1000000 in
theorem body_any (v : Value) (p : GP) (w : World) (h : ProgIs w v p) (i : Int) (hi : InI i) :
    Calls Try.prog 50 #[v, .int .i64 i] w fun e w' => e = .returned (.int .i64 (bodyI p i)) ∧ Below w.heap.size w w' := by
  have h0 := h
  obtain ⟨vn, vs, vr, vm, rfl, hn, hnames, hshown, hrules, hmin⟩ := h
  have hal := bal (Below.refl w.heap.size w) (.cells #[.int .i64 p.n, vn, vs, vr, vm] 27)
  have HP := Lib.hid (h0.below hal)
  clear h0 hnames hshown hmin
  obtain ⟨a1, c1, rfl, -, hl1, -, hcell⟩ := hrules.form
  clear hrules hcell
  unfold InI at hi hn
  by_cases h1 : i < 0
  · have HF : Hid (bodyI p i = 0) := Lib.hid (by simp [bodyI, h1])
    go_enter Try.func50, Try.ntmps50
    go_wp2
    go_ret
    exact ⟨ret_int HF.out.symm, hal⟩
  by_cases h2 : p.rules.length ≤ i
  · have HF : Hid (bodyI p i = 0) := Lib.hid (by simp [bodyI, h2])
    go_enter Try.func50, Try.ntmps50
    go_wp2
    go_ret
    exact ⟨ret_int HF.out.symm, hal⟩
  by_cases h3 : validE p = 0
  · have HF : Hid (bodyI p i = p.n + 1 + i) := Lib.hid (by simp [bodyI, h1, h2, h3])
    have g1 : (validE p == 0) = true := by simp [h3]
    have g2 : (validE p != 0) = false := by simp [h3]
    have hv := validP h3
    have hvn := hv.n
    have hvr := hv.rules
    clear h3 hv
    go_enter Try.func50, Try.ntmps50
    go_wp2_with (go_at_call 21; refine (valid_any _ p _ HP.out).mono ?_; rintro e w1 ⟨rfl, hb1⟩; have hc1 := bcell hb1; have hz1 : w.heap.size < w1.heap.size := (by have := hb1.size; simp at this; omega))
    go_ret
    exact ⟨ret_int HF.out.symm, bon hal hb1⟩
  · have HF : Hid (bodyI p i = 0) := Lib.hid (by simp [bodyI, h3])
    have g1 : (validE p == 0) = false := by simp [h3]
    have g2 : (validE p != 0) = true := by simp [h3]
    clear h3
    go_enter Try.func50, Try.ntmps50
    go_wp2_with (go_at_call 21; refine (valid_any _ p _ HP.out).mono ?_; rintro e w1 ⟨rfl, hb1⟩; have hc1 := bcell hb1; have hz1 : w.heap.size < w1.heap.size := (by have := hb1.size; simp at this; omega))
    go_ret
    exact ⟨ret_int HF.out.symm, bon hal hb1⟩

end Go.Proofs.Ytkjpnpkmnpofgaa
