/- What Find and Source yield at the chapter's example. -/
import Derived.Test.YtkjpnpkmnpofgaaLaw24
namespace Go.Proofs.Ytkjpnpkmnpofgaa
open Go.RowKit

section
variable {a : List Int} {F K : Int → Int} {clk : Int}

theorem loop_av (a : List Int) (F K : Int → Int) (b : Int) : avB loopP a F K 0 b = (!offB a 4 && holdsB a F K b 2) ∧ avB loopP a F K 1 b = (!offB a 5 && holdsB a F K b 1) ∧ avB loopP a F K 2 b = (!offB a 6 && holdsB a F K b 3) ∧ avB loopP a F K 3 b = !offB a 7 := by
  refine ⟨?_, ?_, ?_, ?_⟩ <;> simp [avB, availB, loopP, ixR, ix, allR, List.range_succ]

theorem loop_head {i x : Int} (h : InHead loopP i x) : (x = 1 ∧ (i = 0 ∨ i = 2)) ∨ (x = 2 ∧ i = 1) ∨ (x = 3 ∧ i = 3) := by
  obtain ⟨h1, h2, h3⟩ := h
  have hl : loopP.rules.length = 4 := rfl
  rw [hl] at h2
  rcases (show i = 0 ∨ i = 1 ∨ i = 2 ∨ i = 3 by omega) with rfl | rfl | rfl | rfl <;> simp [loopP, ixR] at h3 <;> subst h3 <;> simp

theorem offB_long {a : List Int} {n : Nat} (h : a.length < n) : offB a n = false := by
  unfold offB
  have : decide ((n : Int).natAbs ≤ a.length) = false := decide_eq_false (by simp; omega)
  rw [this]; rfl

theorem loop_src (ha : a.length ≤ 3) (h : Found loopP a F K clk) :
    (0 < F 3 ↔ offB a 3 = false) ∧ (0 < F 1 ↔ offB a 1 = false ∧ 0 < F 3) ∧ (0 < F 2 ↔ offB a 2 = false ∧ 0 < F 1) ∧ (0 < F 1 → F 1 = 3) ∧ (0 < F 2 → F 2 = 2) ∧ (0 < F 3 → F 3 = 4) := by
  have hav := loop_av a F K
  have o4 : offB a 4 = false := offB_long (n := 4) (by omega)
  have o5 : offB a 5 = false := offB_long (n := 5) (by omega)
  have o6 : offB a 6 = false := offB_long (n := 6) (by omega)
  have o7 : offB a 7 = false := offB_long (n := 7) (by omega)
  have src : ∀ x, 0 < F x → InHead loopP (F x - 1) x ∧ K x ≤ clk := fun x hx => by
    rcases h.lost.inv x with h1 | h1
    · omega
    · exact ⟨h1.2.2.2.1, h1.2.2.2.2.2⟩
  have f3 : 0 < F 3 → F 3 = 4 := fun hx => by have := loop_head (src 3 hx).1; omega
  have f2 : 0 < F 2 → F 2 = 2 := fun hx => by have := loop_head (src 2 hx).1; omega
  have b2 : 0 < F 2 → 0 < F 1 ∧ K 1 < K 2 := fun hx => by
    have h1 := h.lost.ok 2 hx
    rw [f2 hx, show (2 : Int) - 1 = 1 by omega, (hav _).2.1, o5] at h1
    simp [holdsB] at h1
    exact h1.2
  have f1 : 0 < F 1 → F 1 = 3 ∧ 0 < F 3 := fun hx => by
    have h1 := loop_head (src 1 hx).1
    have h2 := h.lost.ok 1 hx
    rcases (show F 1 = 1 ∨ F 1 = 3 by omega) with e | e
    · rw [e, show (1 : Int) - 1 = 0 by omega, (hav _).1, o4] at h2
      simp [holdsB] at h2
      have := b2 h2.2.1
      omega
    · rw [e, show (3 : Int) - 1 = 2 by omega, (hav _).2.2.1, o6] at h2
      simp [holdsB] at h2
      exact ⟨e, h2.2.1⟩
  have hn : loopP.n = 3 := rfl
  have head : ∀ i x, (x = 1 ∧ i = 2) ∨ (x = 2 ∧ i = 1) ∨ (x = 3 ∧ i = 3) → InHead loopP i x := fun i x hx => by
    rcases hx with ⟨rfl, rfl⟩ | ⟨rfl, rfl⟩ | ⟨rfl, rfl⟩ <;> exact ⟨by omega, by decide, by decide⟩
  have mk : ∀ i x, 1 ≤ x → x ≤ 3 → InHead loopP i x → offB a x = false → avB loopP a F K i (clk + 1) = true → 0 < F x := fun i x h1 h2 h3 h4 h5 => by
    refine Classical.byContradiction fun hn' => ?_
    have := h.cmp x i h1 (by rw [hn]; exact h2) hn' h4 h3
    rw [h5] at this; cases this
  have fnd : ∀ x, 0 < F x → 0 < x → offB a x = false → holdsB a F K (clk + 1) x = true := fun x h1 h2 h3 => by
    have := (src x h1).2
    simp [holdsB, h3, h1]
    omega
  refine ⟨⟨fun hx => h.lost.off 3 hx, fun ho => mk 3 3 (by omega) (by omega) (head _ _ (by omega)) ho (by rw [(hav _).2.2.2, o7]; rfl)⟩, ⟨fun hx => ⟨h.lost.off 1 hx, (f1 hx).2⟩, fun ⟨ho, h3⟩ => mk 2 1 (by omega) (by omega) (head _ _ (by omega)) ho ?_⟩, ⟨fun hx => ⟨h.lost.off 2 hx, (b2 hx).1⟩, fun ⟨ho, h1⟩ => mk 1 2 (by omega) (by omega) (head _ _ (by omega)) ho ?_⟩, fun hx => (f1 hx).1, f2, f3⟩
  · rw [(hav _).2.2.1, o6, fnd 3 h3 (by omega) (h.lost.off 3 h3)]; rfl
  · rw [(hav _).2.1, o5, fnd 1 h1 (by omega) (h.lost.off 1 h1)]; rfl

theorem loop_nil (h : Found loopP [] F K clk) : findTo F [] 3 = [] ∧ F 1 = 3 ∧ F 2 = 2 ∧ F 3 = 4 := by
  obtain ⟨h3, h1, h2, e1, e2, e3⟩ := loop_src (by simp) h
  have o : ∀ n : Nat, 1 ≤ n → offB [] n = false := fun n hn => offB_long (by simp; omega)
  have g3 : 0 < F 3 := h3.2 (o 3 (by omega))
  have g1 : 0 < F 1 := h1.2 ⟨o 1 (by omega), g3⟩
  have g2 : 0 < F 2 := h2.2 ⟨o 2 (by omega), g1⟩
  refine ⟨?_, e1 g1, e2 g2, e3 g3⟩
  simp [findTo, g1, g2, g3]

theorem loop_off3 (h : Found loopP [0, 0, -1] F K clk) : findTo F [0, 0, -1] 3 = [1, 2] := by
  obtain ⟨h3, h1, h2, e1, e2, e3⟩ := loop_src (by simp) h
  have g3 : ¬ 0 < F 3 := fun hx => by have := h3.1 hx; revert this; decide
  have g1 : ¬ 0 < F 1 := fun hx => g3 (h1.1 hx).2
  have g2 : ¬ 0 < F 2 := fun hx => g1 (h2.1 hx).2
  have o1 : offB [0, 0, -1] 1 = false := by decide
  have o2 : offB [0, 0, -1] 2 = false := by decide
  have o3 : offB [0, 0, -1] 3 = true := by decide
  simp [findTo, g1, g2, g3, o1, o2, o3]

theorem loop_off13 (h : Found loopP [-1, 0, -1] F K clk) : findTo F [-1, 0, -1] 3 = [2] := by
  obtain ⟨h3, h1, h2, e1, e2, e3⟩ := loop_src (by simp) h
  have g3 : ¬ 0 < F 3 := fun hx => by have := h3.1 hx; revert this; decide
  have g1 : ¬ 0 < F 1 := fun hx => g3 (h1.1 hx).2
  have g2 : ¬ 0 < F 2 := fun hx => g1 (h2.1 hx).2
  have o1 : offB [-1, 0, -1] 1 = true := by decide
  have o2 : offB [-1, 0, -1] 2 = false := by decide
  have o3 : offB [-1, 0, -1] 3 = true := by decide
  simp [findTo, g1, g2, g3, o1, o2, o3]

end

end Go.Proofs.Ytkjpnpkmnpofgaa
