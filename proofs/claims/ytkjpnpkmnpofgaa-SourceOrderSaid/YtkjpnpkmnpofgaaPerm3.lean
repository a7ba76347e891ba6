/- The steps of the walk of XPerm2's theorem. -/
import Derived.Test.YtkjpnpkmnpofgaaPerm2
namespace Go.Proofs.Ytkjpnpkmnpofgaa
open Go.RowKit

/-- An operation that is no call of a Go function. -/
def calm (o : Oper) : Bool := tame o

theorem calm_enter {P : Program} {o : Oper} (h : calm o = true) (ρ : Operand → Value) (w : World) (f : FuncId) (args : Array Value) (w' : World) : (execOp ρ o).run P w ≠ .ok (.enter f args) w' := by
  intro e
  rcases tame_run (P := P) h ρ w with ⟨v, w1, h1⟩ | ⟨w1, h1⟩ | ⟨x, w1, h1⟩ <;> rw [h1] at e <;> cases e

section
variable {P : Program} {ops : Array Oper} {w0 : World} {Cl : Nat → World → Prop} {Φ : Nat → List Value → Value → Nat → Nat → World → Prop} {ism : Nat → Bool} {D : Nat → Nat → Bool} {E : Act → World → Prop} {Q : Exit → Act → World → Prop} {a : Act} {o : Oper} {rest : List Oper} {i : Nat} {F : List (Nat × (World → Prop))} {I : List (Nat × Nat)}

/-- The masks of what each operation waits for, out of the region's own text. -/
def masks (l : List Oper) : List Nat := (Region.before l.toArray).toList

/-- Two classes of worlds that hold the same are one. -/
theorem walkP_cl {Cl' : Nat → World → Prop} (h : ∀ i w, Cl i w → Cl' i w) : ∀ (l : List Oper) (i : Nat) (a : Act) F I, walkP P ops w0 Cl' Φ ism D E l i a F I → walkP P ops w0 Cl Φ ism D E l i a F I := by
  intro l
  induction l with
  | nil => intro i a F I h; exact h
  | cons o rest ih =>
    intro i a F I hw
    unfold walkP at hw ⊢
    split
    · rename_i hi
      rw [if_pos hi] at hw
      exact ⟨hw.1, fun v lo hi h1 h2 h3 => ih _ _ _ _ (hw.2 v lo hi h1 h2 h3)⟩
    · rename_i hi
      rw [if_neg hi] at hw
      obtain ⟨v, h1, h2⟩ := hw
      exact ⟨v, fun w' hw' => h1 w' (h _ _ hw'), ih _ _ _ _ h2⟩

/-- A region without a tail. -/
theorem wp_region_perm' {id : Nat} {w : World} {l : List Oper} (Φ : Nat → List Value → Value → Nat → Nat → World → Prop) (ism : Nat → Bool) (hm : P.follows .mixedOrders = true) (hB : chk l.toArray (masks l) = true) (hT : chkTail l (masks l) l.length ism = true)
    (hΦ : ∀ i args v lo hi w w', Φ i args v lo hi w → Below w.heap.size w w' → Φ i args v lo hi w')
    (h : walkP P l.toArray w (fun _ w' => ∃ e : Ext w, w' = e.world) Φ ism (dm (masks l)) (fun a w' => Q .normal a w') l 0 a [] []) : (Code.region id l.toArray true).wp P Q a w := by
  refine wp_region_tail (masks l) l.length (fun w' => Below w.heap.size w w') Φ ism hm hB hT (fun _ h => h) hΦ ?_
  rw [List.drop_length, List.take_length]
  refine walkP_cl (Cl' := fun _ w' => ∃ e : Ext w, w' = e.world) (fun i w' hw' => ?_) l 0 a [] [] h
  have hw2 : Below w.heap.size w w' := by simpa using hw'
  exact ⟨⟨w', hw2⟩, rfl⟩

/-- A region with a tail of appends, stores and the like. -/
theorem wp_region_tail' {id : Nat} {w : World} {l : List Oper} (n : Nat) (C' : World → Prop) (Φ : Nat → List Value → Value → Nat → Nat → World → Prop) (ism : Nat → Bool) (hm : P.follows .mixedOrders = true) (hB : chk l.toArray (masks l) = true) (hT : chkTail l (masks l) n ism = true)
    (hC : ∀ w', Below w.heap.size w w' → C' w')
    (hΦ : ∀ i args v lo hi w w', Φ i args v lo hi w → Below w.heap.size w w' → Φ i args v lo hi w')
    (h : walkP P l.toArray w (fun i w' => if lateB l (dm (masks l)) n i then C' w' else ∃ e : Ext w, w' = e.world) Φ ism (dm (masks l)) (tailW P l.toArray C' Q (l.drop n)) (l.take n) 0 a [] []) : (Code.region id l.toArray true).wp P Q a w := by
  refine wp_region_tail (masks l) n C' Φ ism hm hB hT hC hΦ ?_
  refine walkP_cl (fun i w' hw' => ?_) _ 0 a [] [] h
  split at hw'
  · rename_i hl; rw [if_pos hl]; exact hw'
  · rename_i hl; rw [if_neg hl]; exact ⟨⟨w', hw'⟩, rfl⟩

theorem DetStep.of_quiet {w : World} {v : Value} {C : World → Prop} (hc : calm o = true) (hw : Region.wanted o (yielded ops a.tmps) = true) (h : o.quietAt P a C w v) : DetStep P ops o a w v := by
  unfold DetStep
  rw [if_pos hw]
  unfold Oper.quietAt at h
  have hne := calm_enter (P := P) hc a.eval w
  generalize (execOp a.eval o).run P w = r at *
  cases r with
  | ok n w' =>
    cases n <;> simp only [Oper.quietUpon] at h <;> simp only [detUpon]
    case value u => exact h
    case skip => exact h
    case enter f args => exact absurd rfl (hne f args w')
  | halt x w' => simp only [Oper.quietUpon] at h

/-- A calm operation: 'refine walkP_calm rfl rfl rfl (fun K hK => ?_)', then 'go_big_quiet_op', then 'refine hK _ ?_; clear hK K'. -/
theorem walkP_calm (hi : ism i = false) (hc : calm o = true) (hw : Region.wanted o (yielded ops a.tmps) = true)
    (h : ∀ K : Act → Prop, (∀ a, walkP P ops w0 Cl Φ ism D E rest (i + 1) a F I → K a) → o.quiet P a (Cl i) K) : walkP P ops w0 Cl Φ ism D E (o :: rest) i a F I := by
  unfold walkP
  rw [if_neg (by rw [hi]; exact Bool.false_ne_true)]
  obtain ⟨v, h1, h2⟩ := h _ (fun _ h => h)
  exact ⟨v, fun w hb => DetStep.of_quiet hc hw (h1 w hb), h2⟩

theorem walkP_skip (hi : ism i = false) (hw : Region.wanted o (yielded ops a.tmps) = false) (h : walkP P ops w0 Cl Φ ism D E rest (i + 1) (a.put o.dst undef) F I) : walkP P ops w0 Cl Φ ism D E (o :: rest) i a F I := by
  unfold walkP
  rw [if_neg (by rw [hi]; exact Bool.false_ne_true)]
  refine ⟨undef, fun w _ => ?_, h⟩
  unfold DetStep
  rw [if_neg (by rw [hw]; exact Bool.false_ne_true)]

/-- An operation that makes memory. -/
theorem walkP_mem (hi : ism i = true) (hw : Region.wanted o (yielded ops a.tmps) = true)
    (h : ∀ w, Below w0.heap.size w0 w → (∀ p ∈ F, D i p.1 = true → p.2 w) → memUpon P (fun v w' => Below w.heap.size w w' ∧ Φ i (argsOf o a) v w.heap.size w'.heap.size w') ((execOp a.eval o).run P w))
    (k : ∀ v lo hi, w0.heap.size ≤ lo → lo ≤ hi → (∃ w, Φ i (argsOf o a) v lo hi w) → walkP P ops w0 Cl Φ ism D E rest (i + 1) (a.put o.dst v) ((i, Φ i (argsOf o a) v lo hi) :: F) ((lo, hi) :: I)) : walkP P ops w0 Cl Φ ism D E (o :: rest) i a F I := by
  unfold walkP
  rw [if_pos hi]
  exact ⟨fun w hb hF => ⟨hw, h w hb hF⟩, k⟩

end

end Go.Proofs.Ytkjpnpkmnpofgaa
