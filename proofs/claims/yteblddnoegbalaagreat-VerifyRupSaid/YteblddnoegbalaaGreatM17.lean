/- My texts PermK, merged. -/
import Derived.Test.YteblddnoegbalaaGreatM08
import Derived.Test.YteblddnoegbalaaGreatM03
import Derived.Test.YteblddnoegbalaaGreatM02
import Derived.Test.YteblddnoegbalaaGreatM01
import Derived.Test.YteblddnoegbalaaGreatM00
import Derived.Test.YteblddnoegbalaaGreatProg
import Derived.WalkKit
import Derived.Lib.Hide
import Derived.Deep.QuietTactic
import Derived.BigQuiet
import Derived.Test.YteblddnoegbalaaGreatM16

namespace Go.Proofs.YteblddnoegbalaaGreat
open Go.RowKit
section
variable {P : Program} {l : List Oper} {D : Nat → Nat → Bool} {Q : Exit → Act → World → Prop} {a0 : Act}
def StepK (P : Program) (l : List Oper) (a0 : Act) (W : (Nat → Value) → (Nat → Bool) → World → Prop) (i : Nat) (vals : Nat → Value) (L : Nat → Bool) (w : World) : Prop :=
  StepJ P l a0 W i vals L w ∧ (tame (opAt l i) = true ∨ Enters P (opAt l i) (Afr l a0 vals i) w)
theorem StepK.of {W : (Nat → Value) → (Nat → Bool) → World → Prop} {i : Nat} {vals : Nat → Value} {L : Nat → Bool} {w : World} (hw : Region.wanted (opAt l i) (yielded l.toArray (Afr l a0 vals i).tmps) = true) (ht : tame (opAt l i) = true)
    (h : ∀ K : Act → World → Prop, (∀ v w', W (updN vals i v) (updN L i true) w' → K ((Afr l a0 vals i).put (opAt l i).dst v) w') → (opAt l i).wp P (Afr l a0 vals i) w K (fun _ _ _ => False)) : StepK P l a0 W i vals L w := ⟨.of hw h, .inl ht⟩
theorem StepK.call {W : (Nat → Value) → (Nat → Bool) → World → Prop} {i : Nat} {vals : Nat → Value} {L : Nat → Bool} {w : World} (hw : Region.wanted (opAt l i) (yielded l.toArray (Afr l a0 vals i).tmps) = true) (ht : Enters P (opAt l i) (Afr l a0 vals i) w)
    (h : ∀ K : Act → World → Prop, (∀ v w', W (updN vals i v) (updN L i true) w' → K ((Afr l a0 vals i).put (opAt l i).dst v) w') → (opAt l i).wp P (Afr l a0 vals i) w K (fun _ _ _ => False)) : StepK P l a0 W i vals L w := ⟨.of hw h, .inr ht⟩
theorem any_invK (c : Chk l.toArray D) (W : (Nat → Value) → (Nat → Bool) → World → Prop)
    (hstep : ∀ i, i < l.length → ∀ vals L w, L i = false → (∀ j, j < l.length → D i j = true → L j = true) → (∀ k, k < l.length → L k = true → ∀ j, j < l.length → D k j = true → L j = true) → W vals L w → StepK P l a0 W i vals L w)
    (hend : ∀ vals L w, (∀ i, i < l.length → L i = true) → W vals L w → Q .normal (Afr l a0 vals l.length) w) :
    ∀ (fuel : Nat) (listed : Array Bool) (w : World) (vals : Nat → Value), listed.size = l.length → unl listed l.length ≤ fuel →
      (∀ k, k < l.length → listed.getD k false = true → ∀ i, i < l.length → D k i = true → listed.getD i false = true) →
      W vals (fun j => listed.getD j false) w → wpAny P .any l.toArray Q fuel listed (fr l.toArray vals (fun j => listed.getD j false) a0 l.length) w := by
  intro fuel
  have hfin : ∀ (listed : Array Bool) (w : World) (vals : Nat → Value), listed.size = l.length → W vals (fun j => listed.getD j false) w → Region.ready .any l.toArray listed = [] → Q .normal (fr l.toArray vals (fun j => listed.getD j false) a0 l.length) w := by
    intro listed w vals hsz hw hr
    have hall := all_listed c hsz hr
    have e : fr l.toArray vals (fun j => listed.getD j false) a0 l.length = Afr l a0 vals l.length := fr_congr _ (fun k hk => ⟨hall k hk, fun _ => rfl⟩)
    rw [e]
    exact hend vals _ w hall hw
  induction fuel with
  | zero =>
    intro listed w vals hsz hfuel hcl hw
    have hr := ready_nil (l := l) hsz (unl_zero (listed := listed) l.length (by omega))
    exact ⟨hr, hfin listed w vals hsz hw hr⟩
  | succ fuel ih =>
    intro listed w vals hsz hfuel hcl hw
    refine ⟨hfin listed w vals hsz hw, fun i hir => ?_⟩
    obtain ⟨h0, o, ho, hdep⟩ := mem_ready.1 hir
    have hil : i < l.length := by have := (Array.getElem?_eq_some_iff.1 ho).1; simpa using this
    have hlt : i < listed.size := by omega
    obtain rfl : o = opAt l i := by rw [opAt_eq hil] at ho; exact (Option.some.inj ho).symm
    have hiun : listed.getD i false = false := by simp [hlt] at h0 ⊢; exact h0
    have hdeps := deps_listed c hcl hil hdep
    have hno : ∀ k, k < l.length → listed.getD k false = true → D k i = false := fun k hk hlk => by
      cases hd : D k i with
      | false => rfl
      | true => rw [hcl k hk hlk i hil hd] at hiun; cases hiun
    have hfuel' : unl (listed.setIfInBounds i true) l.length ≤ fuel := by have := (unl_set hlt hiun l.length).2 hil; omega
    have hsel : ∀ cs b, (opAt l i).op ≠ .select cs b := fun cs b => c.sel i _ cs b (opAt_eq hil)
    have hag := agree_real (a0 := a0) (v1 := vals) (vals := vals) c hil hiun hdeps hno (fun k hk hlk => rfl)
    obtain ⟨⟨hwant, hwp⟩, htm⟩ := hstep i hil vals _ w hiun hdeps hcl hw
    have := wp_agreeC (Q := Q) hsel hag htm hwp
    unfold wpOp
    simp only [opAt_eq hil]
    rw [← hag.wanted, hwant, if_pos rfl]
    refine .inl (Oper.wp_mono (fun b' w' ⟨v, hb', v2, hv2, hW⟩ => ?_) this)
    rw [hb', put_other hag.1 hv2, fr_step c hil hlt hiun hno]
    refine ih _ w' _ (by simpa using hsz) hfuel' (closed_set hlt hcl hdeps) ?_
    have e : (fun j => (listed.setIfInBounds i true).getD j false) = updN (fun j => listed.getD j false) i true := by
      funext j
      rw [getD_set hlt]
      rfl
    rw [e]
    exact hW
theorem wp_region_invK {id : Nat} {w : World} (W : (Nat → Value) → (Nat → Bool) → World → Prop) (hm : P.follows .mixedOrders = true) (hB : chk l.toArray (masks l) = true) (h0 : W (fun _ => undef) (fun _ => false) w.drew)
    (hstep : ∀ i, i < l.length → ∀ vals L w, L i = false → (∀ j, j < l.length → dm (masks l) i j = true → L j = true) → (∀ k, k < l.length → L k = true → ∀ j, j < l.length → dm (masks l) k j = true → L j = true) → W vals L w → StepK P l a0 W i vals L w)
    (hend : ∀ vals L w, (∀ i, i < l.length → L i = true) → W vals L w → Q .normal (Afr l a0 vals l.length) w) : (Code.region id l.toArray true).wp P Q a0 w := by
  refine wp_region_any hm ?_
  have hun : ∀ k, unl (Array.replicate l.toArray.size false) k ≤ k := fun k => by
    induction k with
    | zero => exact Nat.le_refl _
    | succ k ih => unfold unl; split <;> omega
  have hf : ∀ j, (Array.replicate l.toArray.size false).getD j false = false := fun j => by
    simp only [Array.getD_eq_getD_getElem?, Array.getElem?_replicate]
    split <;> simp
  have hff : (fun j => (Array.replicate l.toArray.size false).getD j false) = fun _ => false := funext hf
  have := any_invK (Q := Q) (a0 := a0) (chk_spec hB) W hstep hend l.toArray.size (Array.replicate l.toArray.size false) { w with drawn := w.drawn + 1 } (fun _ => undef) (by simp) (by simpa using hun l.length)
    (fun k _ h => by rw [hf] at h; cases h) (by rw [hff]; exact h0)
  have e : ∀ k, fr l.toArray (fun _ => undef) (fun j => (Array.replicate l.toArray.size false).getD j false) a0 k = a0 := fun k => by
    induction k with
    | zero => rfl
    | succ k ih => rw [fr, if_neg (by rw [hf]; exact Bool.false_ne_true), ih]
  rw [e] at this
  exact this
end
end Go.Proofs.YteblddnoegbalaaGreat
