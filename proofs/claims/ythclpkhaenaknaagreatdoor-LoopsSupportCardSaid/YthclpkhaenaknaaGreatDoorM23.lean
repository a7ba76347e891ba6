/- My texts Perm5, PermK, merged. -/
import Derived.Test.YthclpkhaenaknaaGreatDoorM03
import Derived.Test.YthclpkhaenaknaaGreatDoorM12

/- Regions that draw their order, with ONE call of a Go function that may write, in the tail. -/
namespace Go.Proofs.YthclpkhaenaknaaGreatDoor
open Go.RowKit

/-- The operation enters a Go function. -/
def Enters (P : Program) (o : Oper) (a : Act) (w : World) : Prop := ∃ f args w', (execOp a.eval o).run P w = .ok (.enter f args) w'

def tailC (P : Program) (ops : Array Oper) (C' : World → Prop) (Q : Exit → Act → World → Prop) : List Oper → Act → World → Prop
  | [], a, w => Q .normal a w
  | o :: rest, a, w => Region.wanted o (yielded ops a.tmps) = true ∧ (tame o = true ∨ Enters P o a w) ∧ o.wp P a w (fun a' w' => C' w' ∧ tailC P ops C' Q rest a' w') (fun _ _ _ => False)

theorem wp_agreeC {P : Program} {ops : Array Oper} {o : Oper} (hs : ∀ cs b, o.op ≠ .select cs b) {a b : Act} (h : Agree ops o a b) {w : World} (ht : tame o = true ∨ Enters P o a w) {K : Act → World → Prop} {Q : Exit → Act → World → Prop} (hw : o.wp P a w K (fun _ _ _ => False)) :
    o.wp P b w (fun b' w' => ∃ v, b' = b.put o.dst v ∧ K (a.put o.dst v) w') Q := by
  rcases ht with ht | ⟨f, args, w', hr⟩
  · exact wp_agree hs ht h hw
  · unfold Oper.wp at *
    rw [← execOp_congr o hs h.eval]
    rw [hr] at hw ⊢
    rw [Oper.upon_enter] at hw ⊢
    refine Calls.mono hw fun e w2 he => ?_
    cases e with
    | returned v => exact ⟨v, rfl, he⟩
    | panicked c => exact he.elim
    | outgrown => obtain ⟨_, _, h⟩ := he; exact h.elim

section
variable {P : Program} {l : List Oper} {w0 : World} {Φ : Nat → List Value → Value → Nat → Nat → World → Prop} {ism : Nat → Bool} {D : Nat → Nat → Bool} {Q : Exit → Act → World → Prop} {E : Act → World → Prop} {Cl : Nat → World → Prop} {n : Nat} {a0 : Act}

/-- **BEHIND THE HEAD**: the tail's operations come up in their order; what of the head is late leaves its value whenever it comes up. -/
theorem any_of_tailC (c : Chk l.toArray D) {C' : World → Prop} (hchain : ∀ j, n ≤ j → j + 1 < l.length → D (j + 1) j = true) :
    ∀ (fuel : Nat) (listed : Array Bool) (w : World) (vals v1 : Nat → Value) (j : Nat), listed.size = l.length → unl listed l.length ≤ fuel → n ≤ j → j ≤ l.length →
      (∀ k, k < l.length → listed.getD k false = true → ∀ i, i < l.length → D k i = true → listed.getD i false = true) →
      (∀ k, n ≤ k → k < l.length → (listed.getD k false = true ↔ k < j)) →
      (∀ k, k < n → listed.getD k false = false → ∀ w', C' w' → DetStep P l.toArray (opAt l k) (Afr l a0 v1 k) w' (v1 k)) →
      (∀ k, k < l.length → listed.getD k false = true → v1 k = vals k) → C' w → tailC P l.toArray C' Q (l.drop j) (Afr l a0 v1 j) w →
      wpAny P .any l.toArray Q fuel listed (fr l.toArray vals (fun j => listed.getD j false) a0 l.length) w := by
  intro fuel
  have hend : ∀ (listed : Array Bool) (w : World) (vals v1 : Nat → Value) (j : Nat), listed.size = l.length → n ≤ j → j ≤ l.length → (∀ k, n ≤ k → k < l.length → (listed.getD k false = true ↔ k < j)) →
      (∀ k, k < l.length → listed.getD k false = true → v1 k = vals k) → tailC P l.toArray C' Q (l.drop j) (Afr l a0 v1 j) w → Region.ready .any l.toArray listed = [] → Q .normal (fr l.toArray vals (fun j => listed.getD j false) a0 l.length) w := by
    intro listed w vals v1 j hsz hnj hjl hj hv ht hr
    have hall := all_listed c hsz hr
    have hjn : j = l.length := by
      rcases Nat.lt_or_ge j l.length with h | h
      · exact absurd ((hj j hnj h).1 (hall j h)) (by omega)
      · omega
    subst hjn
    rw [List.drop_length] at ht
    have e : fr l.toArray vals (fun j => listed.getD j false) a0 l.length = Afr l a0 v1 l.length := fr_congr _ (fun k hk => ⟨hall k hk, fun _ => (hv k hk (hall k hk)).symm⟩)
    rw [e]
    exact ht
  induction fuel with
  | zero =>
    intro listed w vals v1 j hsz hfuel hnj hjl hcl hj hlate hv hw ht
    have hr := ready_nil (l := l) hsz (unl_zero (listed := listed) l.length (by omega))
    exact ⟨hr, hend listed w vals v1 j hsz hnj hjl hj hv ht hr⟩
  | succ fuel ih =>
    intro listed w vals v1 j hsz hfuel hnj hjl hcl hj hlate hv hw ht
    refine ⟨hend listed w vals v1 j hsz hnj hjl hj hv ht, fun i hir => ?_⟩
    obtain ⟨h0, o, ho, hdep⟩ := mem_ready.1 hir
    have hil : i < l.length := by have := (Array.getElem?_eq_some_iff.1 ho).1; simpa using this
    have hlt : i < listed.size := by omega
    obtain rfl : o = opAt l i := by rw [opAt_eq hil] at ho; exact (Option.some.inj ho).symm
    have hiun : listed.getD i false = false := by simp [hlt] at h0 ⊢; exact h0
    have hdeps := deps_listed c hcl hil hdep
    have hno : ∀ k, k < l.length → listed.getD k false = true → D k i = false := fun k hk hlk => by
      cases hd : D k i with
      | false => rfl
      | true => rw [hcl k hk hlk i hil hd] at hiun; cases hiun
    have hfuel' : unl (listed.setIfInBounds i true) l.length ≤ fuel := by have := (unl_set hlt hiun l.length).2 hil; omega
    have hsel : ∀ cs b, (opAt l i).op ≠ .select cs b := fun cs b => c.sel i _ cs b (opAt_eq hil)
    have hag := agree_real (a0 := a0) (v1 := v1) (vals := vals) c hil hiun hdeps hno (fun k hk hlk => hv k (by omega) hlk)
    rcases Nat.lt_or_ge i n with hin | hin
    · -- late
      refine wpOp_of_det (opAt_eq hil) (((hlate i hin hiun) w hw).agree hsel hag) ?_
      rw [fr_step c hil hlt hiun hno]
      refine ih _ w _ v1 j (by simpa using hsz) hfuel' hnj hjl (closed_set hlt hcl hdeps) (fun k h1 h2 => ?_) (fun k h1 h2 => ?_) (fun k h1 h2 => ?_) hw ht
      · rw [getD_set hlt, if_neg (by omega)]; exact hj k h1 h2
      · rw [getD_set hlt] at h2
        split at h2
        · cases h2
        · exact hlate k h1 h2
      · rw [getD_set hlt] at h2
        by_cases hki : k = i
        · subst hki; rw [updN_same]
        · rw [if_neg hki] at h2; rw [updN_other _ _ hki]; exact hv k h1 h2
    · -- the next of the tail
      have hij : i = j := by
        have h1 : ¬ i < j := fun h => by rw [(hj i hin hil).2 h] at hiun; cases hiun
        rcases Nat.lt_or_ge j i with h2 | h2
        · exfalso
          have hji : ∀ d, j + 1 + d < l.length → D (j + 1 + d) j = true := fun d => by
            induction d with
            | zero => exact fun h => hchain j hnj h
            | succ d ihd => exact fun h => c.trans _ (j + 1 + d) _ (by simpa using h) (by simp; omega) (by simp; omega) (hchain (j + 1 + d) (by omega) (by omega)) (ihd (by omega))
          have hd := hji (i - (j + 1)) (by omega)
          rw [show j + 1 + (i - (j + 1)) = i by omega] at hd
          have := (hj j hnj (by omega)).1 (hdeps j (by omega) hd)
          omega
        · omega
      subst hij
      have hdrop : l.drop i = opAt l i :: l.drop (i + 1) := by
        rw [List.drop_eq_getElem_cons hil]
        simp [opAt, List.getD, hil]
      rw [hdrop] at ht
      obtain ⟨hwant, htame, hwp⟩ := ht
      have := wp_agreeC (Q := Q) hsel hag htame hwp
      unfold wpOp
      simp only [opAt_eq hil]
      rw [← hag.wanted, hwant, if_pos rfl]
      refine .inl (Oper.wp_mono (fun b' w' ⟨v, hb', hw', ht'⟩ => ?_) this)
      rw [hb', fr_step c hil hlt hiun hno]
      refine ih _ w' _ (updN v1 i v) (i + 1) (by simpa using hsz) hfuel' (by omega) (by omega) (closed_set hlt hcl hdeps) (fun k h1 h2 => ?_) (fun k h1 h2 => ?_) (fun k h1 h2 => ?_) hw' ?_
      · rw [getD_set hlt]
        by_cases hki : k = i
        · subst hki; simp
        · rw [if_neg hki, hj k h1 h2]; omega
      · rw [getD_set hlt, if_neg (by omega)] at h2
        have e : Afr l a0 (updN v1 i v) k = Afr l a0 v1 k := fr_congr k (fun m hm => ⟨rfl, fun _ => updN_other _ _ (by omega)⟩)
        rw [e, updN_other _ _ (by omega)]
        exact hlate k h1 h2
      · rw [getD_set hlt] at h2
        by_cases hki : k = i
        · subst hki; rw [updN_same, updN_same]
        · rw [if_neg hki] at h2; rw [updN_other _ _ hki, updN_other _ _ hki]; exact hv k h1 h2
      · rw [Afr_succ l a0 _ hil, updN_same]
        have e : Afr l a0 (updN v1 i v) i = Afr l a0 v1 i := fr_congr i (fun m hm => ⟨rfl, fun _ => updN_other _ _ (by omega)⟩)
        rw [e]
        exact ht'

theorem any_of_headC (c : Chk l.toArray D) (hn : n ≤ l.length) {C' : World → Prop} (hC : ∀ w, Below w0.heap.size w0 w → C' w) (hchain : ∀ j, n ≤ j → j + 1 < l.length → D (j + 1) j = true)
    (hlate : ∀ i, i < n → lateB l D n i = true → ism i = false)
    (hΦ : ∀ i args v lo hi w w', Φ i args v lo hi w → Below w.heap.size w w' → Φ i args v lo hi w')
    (hw : walkP P l.toArray w0 (fun i w => if lateB l D n i then C' w else Below w0.heap.size w0 w) Φ ism D (tailC P l.toArray C' Q (l.drop n)) (l.take n) 0 a0 [] []) :
    ∀ (fuel : Nat) (listed : Array Bool) (w : World) (vals : Nat → Value) (lo hi : Nat → Nat), listed.size = l.length → unl listed l.length ≤ fuel → Below w0.heap.size w0 w →
      (∀ k, k < l.length → listed.getD k false = true → ∀ i, i < l.length → D k i = true → listed.getD i false = true) →
      (∀ k, n ≤ k → k < l.length → listed.getD k false = false) →
      (∀ i, i < n → listed.getD i false = true → Good P l w0 (fun i w => if lateB l D n i then C' w else Below w0.heap.size w0 w) Φ ism a0 vals lo hi w i) →
      (∀ i j, i < n → j < n → listed.getD i false = true → listed.getD j false = true → ism i = true → ism j = true → i ≠ j → hi i ≤ lo j ∨ hi j ≤ lo i) →
      wpAny P .any l.toArray Q fuel listed (fr l.toArray vals (fun j => listed.getD j false) a0 l.length) w := by
  have hCl : ∀ i w, Below w0.heap.size w0 w → (fun i w => if lateB l D n i then C' w else Below w0.heap.size w0 w) i w := fun i w hb => by
    show (if lateB l D n i then C' w else _)
    split
    · exact hC w hb
    · exact hb
  intro fuel
  induction fuel with
  | zero =>
    intro listed w vals lo hi hsz hfuel hb hcl hnt hg hdj
    have hall := unl_zero (listed := listed) l.length (by omega)
    have hnl : n = l.length := by
      rcases Nat.lt_or_ge n l.length with h | h
      · exact absurd (hall n h) (by rw [hnt n (Nat.le_refl _) h]; exact Bool.false_ne_true)
      · omega
    obtain ⟨v1, lo1, hi1, w1, e1, b1, c1, g1, d1, walk⟩ := complete hn hCl c hΦ hw hb (fun i h1 h2 j h3 h4 => hcl i (by omega) h2 j (by omega) h4) hg hdj n (Nat.le_refl _)
    have ee : ∀ j, j < n → v1 j = vals j ∧ lo1 j = lo j ∧ hi1 j = hi j := fun j hj => e1 j (hall j (by omega))
    rw [show (l.take n).drop n = [] by simp, facts_congr n ee, ints_congr n (fun j hj => (ee j hj).2)] at walk
    have ht := walk w hb (fun p hp => by
      obtain ⟨j, h1, h2, rfl⟩ := mem_facts _ p hp
      have := hg j h1 (hall j (by omega))
      unfold Good at this
      rw [if_pos h2] at this
      exact this.1) (fun q hq => by
      obtain ⟨j, h1, h2, rfl⟩ := mem_ints _ q hq
      have := hg j h1 (hall j (by omega))
      unfold Good at this
      rw [if_pos h2] at this
      exact this.2.2.2) (ints_pair _ (fun i j h1 h2 => hdj i j h1 h2 (hall i (by omega)) (hall j (by omega))))
    exact any_of_tailC c hchain 0 listed w vals v1 n hsz hfuel (Nat.le_refl _) hn hcl (fun k h1 h2 => by omega) (fun k h1 h2 => by rw [hall k (by omega)] at h2; cases h2) (fun k h1 _ => (ee k (by omega)).1) (hC w hb) ht
  | succ fuel ih =>
    intro listed w vals lo hi hsz hfuel hb hcl hnt hg hdj
    by_cases hfull : ∀ k, k < n → lateB l D n k = false → listed.getD k false = true
    · obtain ⟨v1, lo1, hi1, w1, e1, b1, c1, g1, d1, walk⟩ := complete hn hCl c hΦ hw hb (fun i h1 h2 j h3 h4 => hcl i (by omega) h2 j (by omega) h4) hg hdj n (Nat.le_refl _)
      have hmem : ∀ j, j < n → ism j = true → listed.getD j false = true := fun j hj hm => hfull j hj (by
        cases h : lateB l D n j with
        | false => rfl
        | true => rw [hlate j hj h] at hm; cases hm)
      have good : ∀ j, j < n → ism j = true → Φ j (argsOf (opAt l j) (Afr l a0 v1 j)) (v1 j) (lo1 j) (hi1 j) w ∧ hi1 j ≤ w.heap.size := fun j hj hm => by
        have hlj := hmem j hj hm
        have := Good.congr (vals' := v1) (lo' := lo1) (hi1' := hi1) c (by omega) (fun k hkl hk => (e1 k (hcl j (by omega) hlj k hkl hk)).1.symm) (e1 j hlj).1.symm (e1 j hlj).2.1.symm (e1 j hlj).2.2.symm (hg j hj hlj)
        unfold Good at this
        rw [if_pos hm] at this
        exact ⟨this.1, this.2.2.2⟩
      rw [show (l.take n).drop n = [] by simp] at walk
      have ht := walk w hb (fun p hp => by
        obtain ⟨j, h1, h2, rfl⟩ := mem_facts _ p hp
        exact (good j h1 h2).1) (fun q hq => by
        obtain ⟨j, h1, h2, rfl⟩ := mem_ints _ q hq
        exact (good j h1 h2).2) (ints_pair _ (fun i j h1 h2 m1 m2 hne => d1 i j h1 h2 (.inl (hmem i h1 m1)) (.inl (hmem j h2 m2)) m1 m2 hne))
      refine any_of_tailC c hchain (fuel + 1) listed w vals v1 n hsz hfuel (Nat.le_refl _) hn hcl (fun k h1 h2 => ?_) (fun k h1 h2 => ?_) (fun k h1 h2 => (e1 k h2).1) (hC w hb) ht
      · rw [hnt k h1 h2]; simp; omega
      · have hl : lateB l D n k = true := by
          cases h : lateB l D n k with
          | true => rfl
          | false => rw [hfull k h1 h] at h2; cases h2
        have := g1 k h1 (.inr h1)
        unfold Good at this
        rw [if_neg (by rw [hlate k h1 hl]; exact Bool.false_ne_true)] at this
        intro w' hw'
        exact this w' (by show (if lateB l D n k then _ else _); rw [if_pos hl]; exact hw')
    · refine ⟨fun hr => absurd (fun k hk _ => all_listed c hsz hr k (by omega)) hfull, fun i hir => ?_⟩
      obtain ⟨h0, o, ho, hdep⟩ := mem_ready.1 hir
      have hil : i < l.length := by have := (Array.getElem?_eq_some_iff.1 ho).1; simpa using this
      have hlt : i < listed.size := by omega
      obtain rfl : o = opAt l i := by rw [opAt_eq hil] at ho; exact (Option.some.inj ho).symm
      have hiun : listed.getD i false = false := by simp [hlt] at h0 ⊢; exact h0
      have hdeps := deps_listed c hcl hil hdep
      have hin : i < n := by
        rcases Nat.lt_or_ge i n with h | h
        · exact h
        · exfalso
          have hni : i = n := by
            rcases Nat.lt_or_ge n i with h2 | h2
            · exfalso
              have hji : ∀ d, n + 1 + d < l.length → D (n + 1 + d) n = true := fun d => by
                induction d with
                | zero => exact fun h => hchain n (Nat.le_refl _) h
                | succ d ihd => exact fun h => c.trans _ (n + 1 + d) _ (by simpa using h) (by simp; omega) (by simp; omega) (hchain (n + 1 + d) (by omega) (by omega)) (ihd (by omega))
              have hd := hji (i - (n + 1)) (by omega)
              rw [show n + 1 + (i - (n + 1)) = i by omega] at hd
              have := hdeps n (by omega) hd
              rw [hnt n (Nat.le_refl _) (by omega)] at this
              cases this
            · omega
          subst hni
          refine hfull fun k hk hl => hdeps k (by omega) ?_
          unfold lateB at hl
          simp only [Bool.and_eq_false_iff, decide_eq_false_iff_not, Bool.not_eq_false'] at hl
          exact hl.resolve_left (by omega)
      have hno : ∀ k, k < l.length → listed.getD k false = true → D k i = false := fun k hk hlk => by
        cases hd : D k i with
        | false => rfl
        | true => rw [hcl k hk hlk i hil hd] at hiun; cases hiun
      obtain ⟨v1, lo1, hi1, w1, e1, b1, c1, g1, d1, walk⟩ := complete hn hCl c hΦ hw hb (fun i h1 h2 j h3 h4 => hcl i (by omega) h2 j (by omega) h4) hg hdj i (by omega)
      have hdrop : (l.take n).drop i = opAt l i :: (l.take n).drop (i + 1) := by
        rw [List.drop_eq_getElem_cons (by simp; omega)]
        simp [opAt, List.getD, hil]
      rw [hdrop] at walk
      unfold walkP at walk
      have hag := agree_real (a0 := a0) (v1 := v1) (vals := vals) c hil hiun hdeps hno (fun k hk hlk => (e1 k hlk).1)
      have hsel : ∀ cs b, (opAt l i).op ≠ .select cs b := fun cs b => c.sel i _ cs b (opAt_eq hil)
      have hcl' := closed_set hlt hcl hdeps
      have hfuel' : unl (listed.setIfInBounds i true) l.length ≤ fuel := by have := (unl_set hlt hiun l.length).2 hil; omega
      have hnt' : ∀ k, n ≤ k → k < l.length → (listed.setIfInBounds i true).getD k false = false := fun k h1 h2 => by
        rw [getD_set hlt, if_neg (by omega)]; exact hnt k h1 h2
      by_cases hm : ism i = true
      · rw [if_pos hm] at walk
        obtain ⟨hstep, _⟩ := walk
        have hst := hstep w hb (fun p hp hd => by
          obtain ⟨j, h1, h2, rfl⟩ := mem_facts i p hp
          have hlj := hdeps j (by omega) hd
          have := Good.congr (vals' := v1) (lo' := lo1) (hi1' := hi1) c (by omega) (fun k hkl hk => (e1 k (hcl j (by omega) hlj k hkl hk)).1.symm) (e1 j hlj).1.symm (e1 j hlj).2.1.symm (e1 j hlj).2.2.symm (hg j (by omega) hlj)
          unfold Good at this
          rw [if_pos h2] at this
          exact this.1)
        refine wpOp_of_mem (opAt_eq hil) (hst.agree hsel hag) fun v w' ⟨hb', hφ⟩ => ?_
        rw [fr_step c hil hlt hiun hno]
        refine ih _ w' (updN vals i v) (updN lo i w.heap.size) (updN hi i w'.heap.size) (by simpa using hsz) hfuel' (hb.trans (hb'.mono hb.size)) hcl' hnt' (fun j hj hlj => ?_) (fun j k hj hk hlj hlk mj mk hne => ?_)
        · rw [getD_set hlt] at hlj
          by_cases hji : j = i
          · subst hji
            unfold Good
            rw [if_pos hm, updN_same, updN_same, updN_same]
            refine ⟨?_, hb.size, hb'.size, Nat.le_refl _⟩
            have : Agree l.toArray (opAt l j) (Afr l a0 v1 j) (Afr l a0 (updN vals j v) j) := agree_vals c hil (fun k hk hd => by
              rw [updN_other _ _ (by have := c.lt j k (by simpa using hil) (by simpa using hk) hd; omega)]
              exact (e1 k (hdeps k hk hd)).1)
            rw [← this.args]
            exact hφ
          · rw [if_neg hji] at hlj
            exact Good.congr c (by omega) (fun k hk hd => (updN_other _ _ (by rintro rfl; rw [hno j (by omega) hlj] at hd; cases hd)).symm) (updN_other _ _ hji).symm (updN_other _ _ hji).symm (updN_other _ _ hji).symm ((hg j hj hlj).later hΦ hb')
        · rw [getD_set hlt] at hlj hlk
          have hle : ∀ j, j < n → listed.getD j false = true → ism j = true → hi j ≤ w.heap.size := fun j h1 h2 h3 => by
            have := hg j h1 h2
            unfold Good at this
            rw [if_pos h3] at this
            exact this.2.2.2
          by_cases hji : j = i
          · subst hji
            have hkj : k ≠ j := fun e => hne e.symm
            rw [if_neg hkj] at hlk
            rw [updN_same, updN_same, updN_other _ _ hkj, updN_other _ _ hkj]
            exact .inr (hle k hk hlk mk)
          · rw [if_neg hji] at hlj
            by_cases hki : k = i
            · subst hki
              rw [updN_same, updN_same, updN_other _ _ hji, updN_other _ _ hji]
              exact .inl (hle j hj hlj mj)
            · rw [if_neg hki] at hlk
              rw [updN_other _ _ hji, updN_other _ _ hji, updN_other _ _ hki, updN_other _ _ hki]
              exact hdj j k hj hk hlj hlk mj mk hne
      · rw [if_neg hm] at walk
        obtain ⟨v, hdet, _⟩ := walk
        refine wpOp_of_det (opAt_eq hil) ((hdet w (hCl i w hb)).agree hsel hag) ?_
        rw [fr_step c hil hlt hiun hno]
        refine ih _ w (updN vals i v) lo hi (by simpa using hsz) hfuel' hb hcl' hnt' (fun j hj hlj => ?_) (fun j k hj hk hlj hlk mj mk hne => ?_)
        · rw [getD_set hlt] at hlj
          by_cases hji : j = i
          · subst hji
            unfold Good
            rw [if_neg hm, updN_same]
            have : Agree l.toArray (opAt l j) (Afr l a0 v1 j) (Afr l a0 (updN vals j v) j) := agree_vals c hil (fun k hk hd => by
              rw [updN_other _ _ (by have := c.lt j k (by simpa using hil) (by simpa using hk) hd; omega)]
              exact (e1 k (hdeps k hk hd)).1)
            exact fun w' hw' => (hdet w' hw').agree hsel this
          · rw [if_neg hji] at hlj
            exact Good.congr c (by omega) (fun k hk hd => (updN_other _ _ (by rintro rfl; rw [hno j (by omega) hlj] at hd; cases hd)).symm) (updN_other _ _ hji).symm rfl rfl (hg j hj hlj)
        · rw [getD_set hlt] at hlj hlk
          have hji : j ≠ i := by rintro rfl; exact hm mj
          have hki : k ≠ i := by rintro rfl; exact hm mk
          rw [if_neg hji] at hlj
          rw [if_neg hki] at hlk
          exact hdj j k hj hk hlj hlk mj mk hne

/-- **ONE WALK IN THE ORDER OF THE TEXT SERVES EVERY ORDER**: the first n operations by 'walkP', those behind one by one. -/
theorem any_tailC {a : Act} {w : World} (m : List Nat) (n : Nat) (C' : World → Prop) (Φ : Nat → List Value → Value → Nat → Nat → World → Prop) (ism : Nat → Bool) (hB : chk l.toArray m = true) (hT : chkTail l m n ism = true)
    (hC : ∀ w', Below w.heap.size w w' → C' w')
    (hΦ : ∀ i args v lo hi w w', Φ i args v lo hi w → Below w.heap.size w w' → Φ i args v lo hi w')
    (h : walkP P l.toArray w (fun i w' => if lateB l (dm m) n i then C' w' else Below w.heap.size w w') Φ ism (dm m) (tailC P l.toArray C' Q (l.drop n)) (l.take n) 0 a [] []) : wpAny P .any l.toArray Q l.toArray.size (Array.replicate l.toArray.size false) a { w with drawn := w.drawn + 1 } := by
  unfold chkTail at hT
  simp only [Bool.and_eq_true, decide_eq_true_eq, List.all_eq_true, List.mem_range, Bool.or_eq_true, Bool.not_eq_true'] at hT
  obtain ⟨⟨hn, h1⟩, h2⟩ := hT
  have hun : ∀ k, unl (Array.replicate l.toArray.size false) k ≤ k := fun k => by
    induction k with
    | zero => exact Nat.le_refl _
    | succ k ih => unfold unl; split <;> omega
  have hf : ∀ j, (Array.replicate l.toArray.size false).getD j false = false := fun j => by
    simp only [Array.getD_eq_getD_getElem?, Array.getElem?_replicate]
    split <;> simp
  have := any_of_headC (Q := Q) (a0 := a) (w0 := w) (ism := ism) (chk_spec hB) hn hC (fun j hj hj2 => by
    rcases h1 j (by omega) with (h3 | h3) | h3
    · omega
    · omega
    · exact h3) (fun i hi hl => by
    rcases h2 i hi with h3 | h3
    · rw [hl] at h3; cases h3
    · exact h3) hΦ h l.toArray.size (Array.replicate l.toArray.size false) { w with drawn := w.drawn + 1 } (fun _ => undef) (fun _ => 0) (fun _ => 0) (by simp) (by simpa using hun l.length) (Below.refl _ w).drew
    (fun k _ h => by rw [hf] at h; cases h) (fun k _ _ => hf k) (fun i _ h => by rw [hf] at h; cases h) (fun i j _ _ h => by rw [hf] at h; cases h)
  have e : ∀ k, fr l.toArray (fun _ => undef) (fun j => (Array.replicate l.toArray.size false).getD j false) a k = a := fun k => by
    induction k with
    | zero => rfl
    | succ k ih => rw [fr, if_neg (by rw [hf]; exact Bool.false_ne_true), ih]
  rw [e] at this
  exact this

end

section
variable {P : Program} {l : List Oper} {s : List Nat} {Q : Exit → Act → World → Prop}

/-- The tail's law at the listing s. -/
theorem wp_region_tailC {id : Nat} {a : Act} {w : World} (s : List Nat) (n : Nat) (C' : World → Prop) (Φ : Nat → List Value → Value → Nat → Nat → World → Prop) (ism : Nat → Bool) (hm : P.follows .mixedOrders = true) (hS : permB l s = true) (hB : chk (reorder l s).toArray (masks (reorder l s)) = true)
    (hT : chkTail (reorder l s) (masks (reorder l s)) n ism = true)
    (hC : ∀ w', Below w.heap.size w w' → C' w')
    (hΦ : ∀ i args v lo hi w w', Φ i args v lo hi w → Below w.heap.size w w' → Φ i args v lo hi w')
    (h : walkP P (reorder l s).toArray w (fun i w' => if lateB (reorder l s) (dm (masks (reorder l s))) n i then C' w' else ∃ e : Ext w, w' = e.world) Φ ism (dm (masks (reorder l s))) (tailC P (reorder l s).toArray C' Q ((reorder l s).drop n)) ((reorder l s).take n) 0 a [] []) : (Code.region id l.toArray true).wp P Q a w := by
  have c := permB_spec hS
  refine wp_region_any hm (any_perm c _ _ (Array.replicate (reorder l s).toArray.size false) _ _ ⟨by simp, by simp [reorder_len, c.len], fun i hi => ?_⟩ ?_)
  · simp only [Array.getD_eq_getD_getElem?, Array.getElem?_replicate]
    split <;> split <;> simp
  · have e : l.toArray.size = (reorder l s).toArray.size := by simp [reorder_len, c.len]
    rw [e]
    refine any_tailC _ n C' Φ ism hB hT hC hΦ ?_
    refine walkP_cl (fun i w' hw' => ?_) _ 0 a [] [] h
    split at hw'
    · rename_i hl; rw [if_pos hl]; exact hw'
    · rename_i hl; rw [if_neg hl]; exact ⟨⟨w', hw'⟩, rfl⟩

end

/-- The call, by its contract. -/
theorem tailC_call {P : Program} {ops : Array Oper} {C' : World → Prop} {Q : Exit → Act → World → Prop} {o : Oper} {rest : List Oper} {a : Act} {w : World} {f : FuncId} {args : Array Value} (hw : Region.wanted o (yielded ops a.tmps) = true) (hr : (execOp a.eval o).run P w = .ok (.enter f args) w)
    (h : Calls P f args w fun e w' => ∃ v, e = .returned v ∧ C' w' ∧ tailC P ops C' Q rest (a.put o.dst v) w') : tailC P ops C' Q (o :: rest) a w :=
  ⟨hw, .inr ⟨f, args, w, hr⟩, by
    unfold Oper.wp
    rw [hr, Oper.upon_enter]
    exact h.mono fun e w' ⟨v, he, h1⟩ => by subst he; exact h1⟩

end Go.Proofs.YthclpkhaenaknaaGreatDoor

/- A region that draws its order, by what holds when some of its operations have come up; calls of Go functions among them. -/
namespace Go.Proofs.YthclpkhaenaknaaGreatDoor
open Go.RowKit

section
variable {P : Program} {l : List Oper} {D : Nat → Nat → Bool} {Q : Exit → Act → World → Prop} {a0 : Act}

/-- As StepJ; the operation may enter a Go function. -/
def StepK (P : Program) (l : List Oper) (a0 : Act) (W : (Nat → Value) → (Nat → Bool) → World → Prop) (i : Nat) (vals : Nat → Value) (L : Nat → Bool) (w : World) : Prop :=
  StepJ P l a0 W i vals L w ∧ (tame (opAt l i) = true ∨ Enters P (opAt l i) (Afr l a0 vals i) w)

theorem StepK.of {W : (Nat → Value) → (Nat → Bool) → World → Prop} {i : Nat} {vals : Nat → Value} {L : Nat → Bool} {w : World} (hw : Region.wanted (opAt l i) (yielded l.toArray (Afr l a0 vals i).tmps) = true) (ht : tame (opAt l i) = true)
    (h : ∀ K : Act → World → Prop, (∀ v w', W (updN vals i v) (updN L i true) w' → K ((Afr l a0 vals i).put (opAt l i).dst v) w') → (opAt l i).wp P (Afr l a0 vals i) w K (fun _ _ _ => False)) : StepK P l a0 W i vals L w := ⟨.of hw h, .inl ht⟩
theorem StepK.call {W : (Nat → Value) → (Nat → Bool) → World → Prop} {i : Nat} {vals : Nat → Value} {L : Nat → Bool} {w : World} (hw : Region.wanted (opAt l i) (yielded l.toArray (Afr l a0 vals i).tmps) = true) (ht : Enters P (opAt l i) (Afr l a0 vals i) w)
    (h : ∀ K : Act → World → Prop, (∀ v w', W (updN vals i v) (updN L i true) w' → K ((Afr l a0 vals i).put (opAt l i).dst v) w') → (opAt l i).wp P (Afr l a0 vals i) w K (fun _ _ _ => False)) : StepK P l a0 W i vals L w := ⟨.of hw h, .inr ht⟩

theorem any_invK (c : Chk l.toArray D) (W : (Nat → Value) → (Nat → Bool) → World → Prop)
    (hstep : ∀ i, i < l.length → ∀ vals L w, L i = false → (∀ j, j < l.length → D i j = true → L j = true) → (∀ k, k < l.length → L k = true → ∀ j, j < l.length → D k j = true → L j = true) → W vals L w → StepK P l a0 W i vals L w)
    (hend : ∀ vals L w, (∀ i, i < l.length → L i = true) → W vals L w → Q .normal (Afr l a0 vals l.length) w) :
    ∀ (fuel : Nat) (listed : Array Bool) (w : World) (vals : Nat → Value), listed.size = l.length → unl listed l.length ≤ fuel →
      (∀ k, k < l.length → listed.getD k false = true → ∀ i, i < l.length → D k i = true → listed.getD i false = true) →
      W vals (fun j => listed.getD j false) w → wpAny P .any l.toArray Q fuel listed (fr l.toArray vals (fun j => listed.getD j false) a0 l.length) w := by
  intro fuel
  have hfin : ∀ (listed : Array Bool) (w : World) (vals : Nat → Value), listed.size = l.length → W vals (fun j => listed.getD j false) w → Region.ready .any l.toArray listed = [] → Q .normal (fr l.toArray vals (fun j => listed.getD j false) a0 l.length) w := by
    intro listed w vals hsz hw hr
    have hall := all_listed c hsz hr
    have e : fr l.toArray vals (fun j => listed.getD j false) a0 l.length = Afr l a0 vals l.length := fr_congr _ (fun k hk => ⟨hall k hk, fun _ => rfl⟩)
    rw [e]
    exact hend vals _ w hall hw
  induction fuel with
  | zero =>
    intro listed w vals hsz hfuel hcl hw
    have hr := ready_nil (l := l) hsz (unl_zero (listed := listed) l.length (by omega))
    exact ⟨hr, hfin listed w vals hsz hw hr⟩
  | succ fuel ih =>
    intro listed w vals hsz hfuel hcl hw
    refine ⟨hfin listed w vals hsz hw, fun i hir => ?_⟩
    obtain ⟨h0, o, ho, hdep⟩ := mem_ready.1 hir
    have hil : i < l.length := by have := (Array.getElem?_eq_some_iff.1 ho).1; simpa using this
    have hlt : i < listed.size := by omega
    obtain rfl : o = opAt l i := by rw [opAt_eq hil] at ho; exact (Option.some.inj ho).symm
    have hiun : listed.getD i false = false := by simp [hlt] at h0 ⊢; exact h0
    have hdeps := deps_listed c hcl hil hdep
    have hno : ∀ k, k < l.length → listed.getD k false = true → D k i = false := fun k hk hlk => by
      cases hd : D k i with
      | false => rfl
      | true => rw [hcl k hk hlk i hil hd] at hiun; cases hiun
    have hfuel' : unl (listed.setIfInBounds i true) l.length ≤ fuel := by have := (unl_set hlt hiun l.length).2 hil; omega
    have hsel : ∀ cs b, (opAt l i).op ≠ .select cs b := fun cs b => c.sel i _ cs b (opAt_eq hil)
    have hag := agree_real (a0 := a0) (v1 := vals) (vals := vals) c hil hiun hdeps hno (fun k hk hlk => rfl)
    obtain ⟨⟨hwant, hwp⟩, htm⟩ := hstep i hil vals _ w hiun hdeps hcl hw
    have := wp_agreeC (Q := Q) hsel hag htm hwp
    unfold wpOp
    simp only [opAt_eq hil]
    rw [← hag.wanted, hwant, if_pos rfl]
    refine .inl (Oper.wp_mono (fun b' w' ⟨v, hb', v2, hv2, hW⟩ => ?_) this)
    rw [hb', put_other hag.1 hv2, fr_step c hil hlt hiun hno]
    refine ih _ w' _ (by simpa using hsz) hfuel' (closed_set hlt hcl hdeps) ?_
    have e : (fun j => (listed.setIfInBounds i true).getD j false) = updN (fun j => listed.getD j false) i true := by
      funext j
      rw [getD_set hlt]
      rfl
    rw [e]
    exact hW

theorem wp_region_invK {id : Nat} {w : World} (W : (Nat → Value) → (Nat → Bool) → World → Prop) (hm : P.follows .mixedOrders = true) (hB : chk l.toArray (masks l) = true) (h0 : W (fun _ => undef) (fun _ => false) w.drew)
    (hstep : ∀ i, i < l.length → ∀ vals L w, L i = false → (∀ j, j < l.length → dm (masks l) i j = true → L j = true) → (∀ k, k < l.length → L k = true → ∀ j, j < l.length → dm (masks l) k j = true → L j = true) → W vals L w → StepK P l a0 W i vals L w)
    (hend : ∀ vals L w, (∀ i, i < l.length → L i = true) → W vals L w → Q .normal (Afr l a0 vals l.length) w) : (Code.region id l.toArray true).wp P Q a0 w := by
  refine wp_region_any hm ?_
  have hun : ∀ k, unl (Array.replicate l.toArray.size false) k ≤ k := fun k => by
    induction k with
    | zero => exact Nat.le_refl _
    | succ k ih => unfold unl; split <;> omega
  have hf : ∀ j, (Array.replicate l.toArray.size false).getD j false = false := fun j => by
    simp only [Array.getD_eq_getD_getElem?, Array.getElem?_replicate]
    split <;> simp
  have hff : (fun j => (Array.replicate l.toArray.size false).getD j false) = fun _ => false := funext hf
  have := any_invK (Q := Q) (a0 := a0) (chk_spec hB) W hstep hend l.toArray.size (Array.replicate l.toArray.size false) { w with drawn := w.drawn + 1 } (fun _ => undef) (by simp) (by simpa using hun l.length)
    (fun k _ h => by rw [hf] at h; cases h) (by rw [hff]; exact h0)
  have e : ∀ k, fr l.toArray (fun _ => undef) (fun j => (Array.replicate l.toArray.size false).getD j false) a0 k = a0 := fun k => by
    induction k with
    | zero => rfl
    | succ k ih => rw [fr, if_neg (by rw [hf]; exact Bool.false_ne_true), ih]
  rw [e] at this
  exact this
end

end Go.Proofs.YthclpkhaenaknaaGreatDoor
