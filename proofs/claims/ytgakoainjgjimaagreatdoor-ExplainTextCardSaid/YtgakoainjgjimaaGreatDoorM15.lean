/- My texts Perm5, Tx3, merged. -/
import Derived.Test.YtgakoainjgjimaaGreatDoorM02
import Derived.Test.YtgakoainjgjimaaGreatDoorM01
import Derived.Test.YtgakoainjgjimaaGreatDoorM00
import Derived.Test.YtgakoainjgjimaaGreatDoorProg
import Derived.WalkKit
import Derived.Lib.Hide
import Derived.Deep.QuietTactic
import Derived.BigQuiet
import Derived.Test.YtgakoainjgjimaaGreatDoorM14
import Derived.Test.YtgakoainjgjimaaGreatDoorM09
import Derived.Test.YtgakoainjgjimaaGreatDoorM07
import Derived.Test.YtgakoainjgjimaaGreatDoorM05
import Derived.Test.YtgakoainjgjimaaGreatDoorM04
import Derived.Test.YtgakoainjgjimaaGreatDoorM03
import Derived.WalkSpells
import Derived.Lib.SliceRun
import Derived.MapKept
import Derived.Maps.OwnSet
import Derived.Maps.OwnOps
import Derived.Deep.AppendLies
import Derived.Lib.Bytealg
import Derived.Deep.DeepCutAuto
import Derived.Laws.EntriesVeiled
import Derived.Deep.RegionWith
import Derived.Deep.OwnRows
import Derived.Test.YtgakoainjgjimaaGreatDoorM06
import Derived.RangeFuncNested
import Derived.RangeFuncBound
import Derived.RangeFuncCalls
import Derived.RangeFuncLeaves
import Derived.OwnWalkIn
import Derived.TacticsInMore
import Derived.LoopNIn
import Derived.LoopIn
import Derived.Stop.RegionWithIn
import Derived.Shelf.Abstract
import Derived.Deep.LoopGhost
import Derived.Deep.DrawnRows
import Derived.Shelf.Sort.Plain
import Derived.Shelf.Slices.CompactI
import Derived.Shelf.Slices.In.SortNone
import Derived.Shelf.Strconv.Itoa3
import Derived.Shelf.Strings.BuilderK
import Derived.Shelf.Slices.SearchI
import Derived.Shelf.Slices.Empties
import Derived.Lib.ItoaNum
import Derived.Test.YtgakoainjgjimaaGreatDoorM11
import Derived.Test.YtgakoainjgjimaaGreatDoorM10
import Derived.Test.YtgakoainjgjimaaGreatDoorM08
import Derived.Deep.AppendSrc
import Derived.Lib.SlicesCompact
import Derived.Sort.OwnSortedInts

namespace Go.Proofs.YtgakoainjgjimaaGreatDoor
open Go.RowKit
def Enters (P : Program) (o : Oper) (a : Act) (w : World) : Prop := ∃ f args w', (execOp a.eval o).run P w = .ok (.enter f args) w'
def tailC (P : Program) (ops : Array Oper) (C' : World → Prop) (Q : Exit → Act → World → Prop) : List Oper → Act → World → Prop
  | [], a, w => Q .normal a w
  | o :: rest, a, w => Region.wanted o (yielded ops a.tmps) = true ∧ (tame o = true ∨ Enters P o a w) ∧ o.wp P a w (fun a' w' => C' w' ∧ tailC P ops C' Q rest a' w') (fun _ _ _ => False)
theorem wp_agreeC {P : Program} {ops : Array Oper} {o : Oper} (hs : ∀ cs b, o.op ≠ .select cs b) {a b : Act} (h : Agree ops o a b) {w : World} (ht : tame o = true ∨ Enters P o a w) {K : Act → World → Prop} {Q : Exit → Act → World → Prop} (hw : o.wp P a w K (fun _ _ _ => False)) :
    o.wp P b w (fun b' w' => ∃ v, b' = b.put o.dst v ∧ K (a.put o.dst v) w') Q := by
  rcases ht with ht | ⟨f, args, w', hr⟩
  · exact wp_agree hs ht h hw
  · unfold Oper.wp at *
    rw [← execOp_congr o hs h.eval]
    rw [hr] at hw ⊢
    rw [Oper.upon_enter] at hw ⊢
    refine Calls.mono hw fun e w2 he => ?_
    cases e with
    | returned v => exact ⟨v, rfl, he⟩
    | panicked c => exact he.elim
    | outgrown => obtain ⟨_, _, h⟩ := he; exact h.elim
section
variable {P : Program} {l : List Oper} {w0 : World} {Φ : Nat → List Value → Value → Nat → Nat → World → Prop} {ism : Nat → Bool} {D : Nat → Nat → Bool} {Q : Exit → Act → World → Prop} {E : Act → World → Prop} {Cl : Nat → World → Prop} {n : Nat} {a0 : Act}
theorem any_of_tailC (c : Chk l.toArray D) {C' : World → Prop} (hchain : ∀ j, n ≤ j → j + 1 < l.length → D (j + 1) j = true) :
    ∀ (fuel : Nat) (listed : Array Bool) (w : World) (vals v1 : Nat → Value) (j : Nat), listed.size = l.length → unl listed l.length ≤ fuel → n ≤ j → j ≤ l.length →
      (∀ k, k < l.length → listed.getD k false = true → ∀ i, i < l.length → D k i = true → listed.getD i false = true) →
      (∀ k, n ≤ k → k < l.length → (listed.getD k false = true ↔ k < j)) →
      (∀ k, k < n → listed.getD k false = false → ∀ w', C' w' → DetStep P l.toArray (opAt l k) (Afr l a0 v1 k) w' (v1 k)) →
      (∀ k, k < l.length → listed.getD k false = true → v1 k = vals k) → C' w → tailC P l.toArray C' Q (l.drop j) (Afr l a0 v1 j) w →
      wpAny P .any l.toArray Q fuel listed (fr l.toArray vals (fun j => listed.getD j false) a0 l.length) w := by
  intro fuel
  have hend : ∀ (listed : Array Bool) (w : World) (vals v1 : Nat → Value) (j : Nat), listed.size = l.length → n ≤ j → j ≤ l.length → (∀ k, n ≤ k → k < l.length → (listed.getD k false = true ↔ k < j)) →
      (∀ k, k < l.length → listed.getD k false = true → v1 k = vals k) → tailC P l.toArray C' Q (l.drop j) (Afr l a0 v1 j) w → Region.ready .any l.toArray listed = [] → Q .normal (fr l.toArray vals (fun j => listed.getD j false) a0 l.length) w := by
    intro listed w vals v1 j hsz hnj hjl hj hv ht hr
    have hall := all_listed c hsz hr
    have hjn : j = l.length := by
      rcases Nat.lt_or_ge j l.length with h | h
      · exact absurd ((hj j hnj h).1 (hall j h)) (by omega)
      · omega
    subst hjn
    rw [List.drop_length] at ht
    have e : fr l.toArray vals (fun j => listed.getD j false) a0 l.length = Afr l a0 v1 l.length := fr_congr _ (fun k hk => ⟨hall k hk, fun _ => (hv k hk (hall k hk)).symm⟩)
    rw [e]
    exact ht
  induction fuel with
  | zero =>
    intro listed w vals v1 j hsz hfuel hnj hjl hcl hj hlate hv hw ht
    have hr := ready_nil (l := l) hsz (unl_zero (listed := listed) l.length (by omega))
    exact ⟨hr, hend listed w vals v1 j hsz hnj hjl hj hv ht hr⟩
  | succ fuel ih =>
    intro listed w vals v1 j hsz hfuel hnj hjl hcl hj hlate hv hw ht
    refine ⟨hend listed w vals v1 j hsz hnj hjl hj hv ht, fun i hir => ?_⟩
    obtain ⟨h0, o, ho, hdep⟩ := mem_ready.1 hir
    have hil : i < l.length := by have := (Array.getElem?_eq_some_iff.1 ho).1; simpa using this
    have hlt : i < listed.size := by omega
    obtain rfl : o = opAt l i := by rw [opAt_eq hil] at ho; exact (Option.some.inj ho).symm
    have hiun : listed.getD i false = false := by simp [hlt] at h0 ⊢; exact h0
    have hdeps := deps_listed c hcl hil hdep
    have hno : ∀ k, k < l.length → listed.getD k false = true → D k i = false := fun k hk hlk => by
      cases hd : D k i with
      | false => rfl
      | true => rw [hcl k hk hlk i hil hd] at hiun; cases hiun
    have hfuel' : unl (listed.setIfInBounds i true) l.length ≤ fuel := by have := (unl_set hlt hiun l.length).2 hil; omega
    have hsel : ∀ cs b, (opAt l i).op ≠ .select cs b := fun cs b => c.sel i _ cs b (opAt_eq hil)
    have hag := agree_real (a0 := a0) (v1 := v1) (vals := vals) c hil hiun hdeps hno (fun k hk hlk => hv k (by omega) hlk)
    rcases Nat.lt_or_ge i n with hin | hin
    · -- late
      refine wpOp_of_det (opAt_eq hil) (((hlate i hin hiun) w hw).agree hsel hag) ?_
      rw [fr_step c hil hlt hiun hno]
      refine ih _ w _ v1 j (by simpa using hsz) hfuel' hnj hjl (closed_set hlt hcl hdeps) (fun k h1 h2 => ?_) (fun k h1 h2 => ?_) (fun k h1 h2 => ?_) hw ht
      · rw [getD_set hlt, if_neg (by omega)]; exact hj k h1 h2
      · rw [getD_set hlt] at h2
        split at h2
        · cases h2
        · exact hlate k h1 h2
      · rw [getD_set hlt] at h2
        by_cases hki : k = i
        · subst hki; rw [updN_same]
        · rw [if_neg hki] at h2; rw [updN_other _ _ hki]; exact hv k h1 h2
    · -- the next of the tail
      have hij : i = j := by
        have h1 : ¬ i < j := fun h => by rw [(hj i hin hil).2 h] at hiun; cases hiun
        rcases Nat.lt_or_ge j i with h2 | h2
        · exfalso
          have hji : ∀ d, j + 1 + d < l.length → D (j + 1 + d) j = true := fun d => by
            induction d with
            | zero => exact fun h => hchain j hnj h
            | succ d ihd => exact fun h => c.trans _ (j + 1 + d) _ (by simpa using h) (by simp; omega) (by simp; omega) (hchain (j + 1 + d) (by omega) (by omega)) (ihd (by omega))
          have hd := hji (i - (j + 1)) (by omega)
          rw [show j + 1 + (i - (j + 1)) = i by omega] at hd
          have := (hj j hnj (by omega)).1 (hdeps j (by omega) hd)
          omega
        · omega
      subst hij
      have hdrop : l.drop i = opAt l i :: l.drop (i + 1) := by
        rw [List.drop_eq_getElem_cons hil]
        simp [opAt, List.getD, hil]
      rw [hdrop] at ht
      obtain ⟨hwant, htame, hwp⟩ := ht
      have := wp_agreeC (Q := Q) hsel hag htame hwp
      unfold wpOp
      simp only [opAt_eq hil]
      rw [← hag.wanted, hwant, if_pos rfl]
      refine .inl (Oper.wp_mono (fun b' w' ⟨v, hb', hw', ht'⟩ => ?_) this)
      rw [hb', fr_step c hil hlt hiun hno]
      refine ih _ w' _ (updN v1 i v) (i + 1) (by simpa using hsz) hfuel' (by omega) (by omega) (closed_set hlt hcl hdeps) (fun k h1 h2 => ?_) (fun k h1 h2 => ?_) (fun k h1 h2 => ?_) hw' ?_
      · rw [getD_set hlt]
        by_cases hki : k = i
        · subst hki; simp
        · rw [if_neg hki, hj k h1 h2]; omega
      · rw [getD_set hlt, if_neg (by omega)] at h2
        have e : Afr l a0 (updN v1 i v) k = Afr l a0 v1 k := fr_congr k (fun m hm => ⟨rfl, fun _ => updN_other _ _ (by omega)⟩)
        rw [e, updN_other _ _ (by omega)]
        exact hlate k h1 h2
      · rw [getD_set hlt] at h2
        by_cases hki : k = i
        · subst hki; rw [updN_same, updN_same]
        · rw [if_neg hki] at h2; rw [updN_other _ _ hki, updN_other _ _ hki]; exact hv k h1 h2
      · rw [Afr_succ l a0 _ hil, updN_same]
        have e : Afr l a0 (updN v1 i v) i = Afr l a0 v1 i := fr_congr i (fun m hm => ⟨rfl, fun _ => updN_other _ _ (by omega)⟩)
        rw [e]
        exact ht'
theorem any_of_headC (c : Chk l.toArray D) (hn : n ≤ l.length) {C' : World → Prop} (hC : ∀ w, Below w0.heap.size w0 w → C' w) (hchain : ∀ j, n ≤ j → j + 1 < l.length → D (j + 1) j = true)
    (hlate : ∀ i, i < n → lateB l D n i = true → ism i = false)
    (hΦ : ∀ i args v lo hi w w', Φ i args v lo hi w → Below w.heap.size w w' → Φ i args v lo hi w')
    (hw : walkP P l.toArray w0 (fun i w => if lateB l D n i then C' w else Below w0.heap.size w0 w) Φ ism D (tailC P l.toArray C' Q (l.drop n)) (l.take n) 0 a0 [] []) :
    ∀ (fuel : Nat) (listed : Array Bool) (w : World) (vals : Nat → Value) (lo hi : Nat → Nat), listed.size = l.length → unl listed l.length ≤ fuel → Below w0.heap.size w0 w →
      (∀ k, k < l.length → listed.getD k false = true → ∀ i, i < l.length → D k i = true → listed.getD i false = true) →
      (∀ k, n ≤ k → k < l.length → listed.getD k false = false) →
      (∀ i, i < n → listed.getD i false = true → Good P l w0 (fun i w => if lateB l D n i then C' w else Below w0.heap.size w0 w) Φ ism a0 vals lo hi w i) →
      (∀ i j, i < n → j < n → listed.getD i false = true → listed.getD j false = true → ism i = true → ism j = true → i ≠ j → hi i ≤ lo j ∨ hi j ≤ lo i) →
      wpAny P .any l.toArray Q fuel listed (fr l.toArray vals (fun j => listed.getD j false) a0 l.length) w := by
  have hCl : ∀ i w, Below w0.heap.size w0 w → (fun i w => if lateB l D n i then C' w else Below w0.heap.size w0 w) i w := fun i w hb => by
    show (if lateB l D n i then C' w else _)
    split
    · exact hC w hb
    · exact hb
  intro fuel
  induction fuel with
  | zero =>
    intro listed w vals lo hi hsz hfuel hb hcl hnt hg hdj
    have hall := unl_zero (listed := listed) l.length (by omega)
    have hnl : n = l.length := by
      rcases Nat.lt_or_ge n l.length with h | h
      · exact absurd (hall n h) (by rw [hnt n (Nat.le_refl _) h]; exact Bool.false_ne_true)
      · omega
    obtain ⟨v1, lo1, hi1, w1, e1, b1, c1, g1, d1, walk⟩ := complete hn hCl c hΦ hw hb (fun i h1 h2 j h3 h4 => hcl i (by omega) h2 j (by omega) h4) hg hdj n (Nat.le_refl _)
    have ee : ∀ j, j < n → v1 j = vals j ∧ lo1 j = lo j ∧ hi1 j = hi j := fun j hj => e1 j (hall j (by omega))
    rw [show (l.take n).drop n = [] by simp, facts_congr n ee, ints_congr n (fun j hj => (ee j hj).2)] at walk
    have ht := walk w hb (fun p hp => by
      obtain ⟨j, h1, h2, rfl⟩ := mem_facts _ p hp
      have := hg j h1 (hall j (by omega))
      unfold Good at this
      rw [if_pos h2] at this
      exact this.1) (fun q hq => by
      obtain ⟨j, h1, h2, rfl⟩ := mem_ints _ q hq
      have := hg j h1 (hall j (by omega))
      unfold Good at this
      rw [if_pos h2] at this
      exact this.2.2.2) (ints_pair _ (fun i j h1 h2 => hdj i j h1 h2 (hall i (by omega)) (hall j (by omega))))
    exact any_of_tailC c hchain 0 listed w vals v1 n hsz hfuel (Nat.le_refl _) hn hcl (fun k h1 h2 => by omega) (fun k h1 h2 => by rw [hall k (by omega)] at h2; cases h2) (fun k h1 _ => (ee k (by omega)).1) (hC w hb) ht
  | succ fuel ih =>
    intro listed w vals lo hi hsz hfuel hb hcl hnt hg hdj
    by_cases hfull : ∀ k, k < n → lateB l D n k = false → listed.getD k false = true
    · obtain ⟨v1, lo1, hi1, w1, e1, b1, c1, g1, d1, walk⟩ := complete hn hCl c hΦ hw hb (fun i h1 h2 j h3 h4 => hcl i (by omega) h2 j (by omega) h4) hg hdj n (Nat.le_refl _)
      have hmem : ∀ j, j < n → ism j = true → listed.getD j false = true := fun j hj hm => hfull j hj (by
        cases h : lateB l D n j with
        | false => rfl
        | true => rw [hlate j hj h] at hm; cases hm)
      have good : ∀ j, j < n → ism j = true → Φ j (argsOf (opAt l j) (Afr l a0 v1 j)) (v1 j) (lo1 j) (hi1 j) w ∧ hi1 j ≤ w.heap.size := fun j hj hm => by
        have hlj := hmem j hj hm
        have := Good.congr (vals' := v1) (lo' := lo1) (hi1' := hi1) c (by omega) (fun k hkl hk => (e1 k (hcl j (by omega) hlj k hkl hk)).1.symm) (e1 j hlj).1.symm (e1 j hlj).2.1.symm (e1 j hlj).2.2.symm (hg j hj hlj)
        unfold Good at this
        rw [if_pos hm] at this
        exact ⟨this.1, this.2.2.2⟩
      rw [show (l.take n).drop n = [] by simp] at walk
      have ht := walk w hb (fun p hp => by
        obtain ⟨j, h1, h2, rfl⟩ := mem_facts _ p hp
        exact (good j h1 h2).1) (fun q hq => by
        obtain ⟨j, h1, h2, rfl⟩ := mem_ints _ q hq
        exact (good j h1 h2).2) (ints_pair _ (fun i j h1 h2 m1 m2 hne => d1 i j h1 h2 (.inl (hmem i h1 m1)) (.inl (hmem j h2 m2)) m1 m2 hne))
      refine any_of_tailC c hchain (fuel + 1) listed w vals v1 n hsz hfuel (Nat.le_refl _) hn hcl (fun k h1 h2 => ?_) (fun k h1 h2 => ?_) (fun k h1 h2 => (e1 k h2).1) (hC w hb) ht
      · rw [hnt k h1 h2]; simp; omega
      · have hl : lateB l D n k = true := by
          cases h : lateB l D n k with
          | true => rfl
          | false => rw [hfull k h1 h] at h2; cases h2
        have := g1 k h1 (.inr h1)
        unfold Good at this
        rw [if_neg (by rw [hlate k h1 hl]; exact Bool.false_ne_true)] at this
        intro w' hw'
        exact this w' (by show (if lateB l D n k then _ else _); rw [if_pos hl]; exact hw')
    · refine ⟨fun hr => absurd (fun k hk _ => all_listed c hsz hr k (by omega)) hfull, fun i hir => ?_⟩
      obtain ⟨h0, o, ho, hdep⟩ := mem_ready.1 hir
      have hil : i < l.length := by have := (Array.getElem?_eq_some_iff.1 ho).1; simpa using this
      have hlt : i < listed.size := by omega
      obtain rfl : o = opAt l i := by rw [opAt_eq hil] at ho; exact (Option.some.inj ho).symm
      have hiun : listed.getD i false = false := by simp [hlt] at h0 ⊢; exact h0
      have hdeps := deps_listed c hcl hil hdep
      have hin : i < n := by
        rcases Nat.lt_or_ge i n with h | h
        · exact h
        · exfalso
          have hni : i = n := by
            rcases Nat.lt_or_ge n i with h2 | h2
            · exfalso
              have hji : ∀ d, n + 1 + d < l.length → D (n + 1 + d) n = true := fun d => by
                induction d with
                | zero => exact fun h => hchain n (Nat.le_refl _) h
                | succ d ihd => exact fun h => c.trans _ (n + 1 + d) _ (by simpa using h) (by simp; omega) (by simp; omega) (hchain (n + 1 + d) (by omega) (by omega)) (ihd (by omega))
              have hd := hji (i - (n + 1)) (by omega)
              rw [show n + 1 + (i - (n + 1)) = i by omega] at hd
              have := hdeps n (by omega) hd
              rw [hnt n (Nat.le_refl _) (by omega)] at this
              cases this
            · omega
          subst hni
          refine hfull fun k hk hl => hdeps k (by omega) ?_
          unfold lateB at hl
          simp only [Bool.and_eq_false_iff, decide_eq_false_iff_not, Bool.not_eq_false'] at hl
          exact hl.resolve_left (by omega)
      have hno : ∀ k, k < l.length → listed.getD k false = true → D k i = false := fun k hk hlk => by
        cases hd : D k i with
        | false => rfl
        | true => rw [hcl k hk hlk i hil hd] at hiun; cases hiun
      obtain ⟨v1, lo1, hi1, w1, e1, b1, c1, g1, d1, walk⟩ := complete hn hCl c hΦ hw hb (fun i h1 h2 j h3 h4 => hcl i (by omega) h2 j (by omega) h4) hg hdj i (by omega)
      have hdrop : (l.take n).drop i = opAt l i :: (l.take n).drop (i + 1) := by
        rw [List.drop_eq_getElem_cons (by simp; omega)]
        simp [opAt, List.getD, hil]
      rw [hdrop] at walk
      unfold walkP at walk
      have hag := agree_real (a0 := a0) (v1 := v1) (vals := vals) c hil hiun hdeps hno (fun k hk hlk => (e1 k hlk).1)
      have hsel : ∀ cs b, (opAt l i).op ≠ .select cs b := fun cs b => c.sel i _ cs b (opAt_eq hil)
      have hcl' := closed_set hlt hcl hdeps
      have hfuel' : unl (listed.setIfInBounds i true) l.length ≤ fuel := by have := (unl_set hlt hiun l.length).2 hil; omega
      have hnt' : ∀ k, n ≤ k → k < l.length → (listed.setIfInBounds i true).getD k false = false := fun k h1 h2 => by
        rw [getD_set hlt, if_neg (by omega)]; exact hnt k h1 h2
      by_cases hm : ism i = true
      · rw [if_pos hm] at walk
        obtain ⟨hstep, _⟩ := walk
        have hst := hstep w hb (fun p hp hd => by
          obtain ⟨j, h1, h2, rfl⟩ := mem_facts i p hp
          have hlj := hdeps j (by omega) hd
          have := Good.congr (vals' := v1) (lo' := lo1) (hi1' := hi1) c (by omega) (fun k hkl hk => (e1 k (hcl j (by omega) hlj k hkl hk)).1.symm) (e1 j hlj).1.symm (e1 j hlj).2.1.symm (e1 j hlj).2.2.symm (hg j (by omega) hlj)
          unfold Good at this
          rw [if_pos h2] at this
          exact this.1)
        refine wpOp_of_mem (opAt_eq hil) (hst.agree hsel hag) fun v w' ⟨hb', hφ⟩ => ?_
        rw [fr_step c hil hlt hiun hno]
        refine ih _ w' (updN vals i v) (updN lo i w.heap.size) (updN hi i w'.heap.size) (by simpa using hsz) hfuel' (hb.trans (hb'.mono hb.size)) hcl' hnt' (fun j hj hlj => ?_) (fun j k hj hk hlj hlk mj mk hne => ?_)
        · rw [getD_set hlt] at hlj
          by_cases hji : j = i
          · subst hji
            unfold Good
            rw [if_pos hm, updN_same, updN_same, updN_same]
            refine ⟨?_, hb.size, hb'.size, Nat.le_refl _⟩
            have : Agree l.toArray (opAt l j) (Afr l a0 v1 j) (Afr l a0 (updN vals j v) j) := agree_vals c hil (fun k hk hd => by
              rw [updN_other _ _ (by have := c.lt j k (by simpa using hil) (by simpa using hk) hd; omega)]
              exact (e1 k (hdeps k hk hd)).1)
            rw [← this.args]
            exact hφ
          · rw [if_neg hji] at hlj
            exact Good.congr c (by omega) (fun k hk hd => (updN_other _ _ (by rintro rfl; rw [hno j (by omega) hlj] at hd; cases hd)).symm) (updN_other _ _ hji).symm (updN_other _ _ hji).symm (updN_other _ _ hji).symm ((hg j hj hlj).later hΦ hb')
        · rw [getD_set hlt] at hlj hlk
          have hle : ∀ j, j < n → listed.getD j false = true → ism j = true → hi j ≤ w.heap.size := fun j h1 h2 h3 => by
            have := hg j h1 h2
            unfold Good at this
            rw [if_pos h3] at this
            exact this.2.2.2
          by_cases hji : j = i
          · subst hji
            have hkj : k ≠ j := fun e => hne e.symm
            rw [if_neg hkj] at hlk
            rw [updN_same, updN_same, updN_other _ _ hkj, updN_other _ _ hkj]
            exact .inr (hle k hk hlk mk)
          · rw [if_neg hji] at hlj
            by_cases hki : k = i
            · subst hki
              rw [updN_same, updN_same, updN_other _ _ hji, updN_other _ _ hji]
              exact .inl (hle j hj hlj mj)
            · rw [if_neg hki] at hlk
              rw [updN_other _ _ hji, updN_other _ _ hji, updN_other _ _ hki, updN_other _ _ hki]
              exact hdj j k hj hk hlj hlk mj mk hne
      · rw [if_neg hm] at walk
        obtain ⟨v, hdet, _⟩ := walk
        refine wpOp_of_det (opAt_eq hil) ((hdet w (hCl i w hb)).agree hsel hag) ?_
        rw [fr_step c hil hlt hiun hno]
        refine ih _ w (updN vals i v) lo hi (by simpa using hsz) hfuel' hb hcl' hnt' (fun j hj hlj => ?_) (fun j k hj hk hlj hlk mj mk hne => ?_)
        · rw [getD_set hlt] at hlj
          by_cases hji : j = i
          · subst hji
            unfold Good
            rw [if_neg hm, updN_same]
            have : Agree l.toArray (opAt l j) (Afr l a0 v1 j) (Afr l a0 (updN vals j v) j) := agree_vals c hil (fun k hk hd => by
              rw [updN_other _ _ (by have := c.lt j k (by simpa using hil) (by simpa using hk) hd; omega)]
              exact (e1 k (hdeps k hk hd)).1)
            exact fun w' hw' => (hdet w' hw').agree hsel this
          · rw [if_neg hji] at hlj
            exact Good.congr c (by omega) (fun k hk hd => (updN_other _ _ (by rintro rfl; rw [hno j (by omega) hlj] at hd; cases hd)).symm) (updN_other _ _ hji).symm rfl rfl (hg j hj hlj)
        · rw [getD_set hlt] at hlj hlk
          have hji : j ≠ i := by rintro rfl; exact hm mj
          have hki : k ≠ i := by rintro rfl; exact hm mk
          rw [if_neg hji] at hlj
          rw [if_neg hki] at hlk
          exact hdj j k hj hk hlj hlk mj mk hne
theorem any_tailC {a : Act} {w : World} (m : List Nat) (n : Nat) (C' : World → Prop) (Φ : Nat → List Value → Value → Nat → Nat → World → Prop) (ism : Nat → Bool) (hB : chk l.toArray m = true) (hT : chkTail l m n ism = true)
    (hC : ∀ w', Below w.heap.size w w' → C' w')
    (hΦ : ∀ i args v lo hi w w', Φ i args v lo hi w → Below w.heap.size w w' → Φ i args v lo hi w')
    (h : walkP P l.toArray w (fun i w' => if lateB l (dm m) n i then C' w' else Below w.heap.size w w') Φ ism (dm m) (tailC P l.toArray C' Q (l.drop n)) (l.take n) 0 a [] []) : wpAny P .any l.toArray Q l.toArray.size (Array.replicate l.toArray.size false) a { w with drawn := w.drawn + 1 } := by
  unfold chkTail at hT
  simp only [Bool.and_eq_true, decide_eq_true_eq, List.all_eq_true, List.mem_range, Bool.or_eq_true, Bool.not_eq_true'] at hT
  obtain ⟨⟨hn, h1⟩, h2⟩ := hT
  have hun : ∀ k, unl (Array.replicate l.toArray.size false) k ≤ k := fun k => by
    induction k with
    | zero => exact Nat.le_refl _
    | succ k ih => unfold unl; split <;> omega
  have hf : ∀ j, (Array.replicate l.toArray.size false).getD j false = false := fun j => by
    simp only [Array.getD_eq_getD_getElem?, Array.getElem?_replicate]
    split <;> simp
  have := any_of_headC (Q := Q) (a0 := a) (w0 := w) (ism := ism) (chk_spec hB) hn hC (fun j hj hj2 => by
    rcases h1 j (by omega) with (h3 | h3) | h3
    · omega
    · omega
    · exact h3) (fun i hi hl => by
    rcases h2 i hi with h3 | h3
    · rw [hl] at h3; cases h3
    · exact h3) hΦ h l.toArray.size (Array.replicate l.toArray.size false) { w with drawn := w.drawn + 1 } (fun _ => undef) (fun _ => 0) (fun _ => 0) (by simp) (by simpa using hun l.length) (Below.refl _ w).drew
    (fun k _ h => by rw [hf] at h; cases h) (fun k _ _ => hf k) (fun i _ h => by rw [hf] at h; cases h) (fun i j _ _ h => by rw [hf] at h; cases h)
  have e : ∀ k, fr l.toArray (fun _ => undef) (fun j => (Array.replicate l.toArray.size false).getD j false) a k = a := fun k => by
    induction k with
    | zero => rfl
    | succ k ih => rw [fr, if_neg (by rw [hf]; exact Bool.false_ne_true), ih]
  rw [e] at this
  exact this
end
section
variable {P : Program} {l : List Oper} {s : List Nat} {Q : Exit → Act → World → Prop}
theorem wp_region_tailC {id : Nat} {a : Act} {w : World} (s : List Nat) (n : Nat) (C' : World → Prop) (Φ : Nat → List Value → Value → Nat → Nat → World → Prop) (ism : Nat → Bool) (hm : P.follows .mixedOrders = true) (hS : permB l s = true) (hB : chk (reorder l s).toArray (masks (reorder l s)) = true)
    (hT : chkTail (reorder l s) (masks (reorder l s)) n ism = true)
    (hC : ∀ w', Below w.heap.size w w' → C' w')
    (hΦ : ∀ i args v lo hi w w', Φ i args v lo hi w → Below w.heap.size w w' → Φ i args v lo hi w')
    (h : walkP P (reorder l s).toArray w (fun i w' => if lateB (reorder l s) (dm (masks (reorder l s))) n i then C' w' else ∃ e : Ext w, w' = e.world) Φ ism (dm (masks (reorder l s))) (tailC P (reorder l s).toArray C' Q ((reorder l s).drop n)) ((reorder l s).take n) 0 a [] []) : (Code.region id l.toArray true).wp P Q a w := by
  have c := permB_spec hS
  refine wp_region_any hm (any_perm c _ _ (Array.replicate (reorder l s).toArray.size false) _ _ ⟨by simp, by simp [reorder_len, c.len], fun i hi => ?_⟩ ?_)
  · simp only [Array.getD_eq_getD_getElem?, Array.getElem?_replicate]
    split <;> split <;> simp
  · have e : l.toArray.size = (reorder l s).toArray.size := by simp [reorder_len, c.len]
    rw [e]
    refine any_tailC _ n C' Φ ism hB hT hC hΦ ?_
    refine walkP_cl (fun i w' hw' => ?_) _ 0 a [] [] h
    split at hw'
    · rename_i hl; rw [if_pos hl]; exact hw'
    · rename_i hl; rw [if_neg hl]; exact ⟨⟨w', hw'⟩, rfl⟩
end
theorem tailC_call {P : Program} {ops : Array Oper} {C' : World → Prop} {Q : Exit → Act → World → Prop} {o : Oper} {rest : List Oper} {a : Act} {w : World} {f : FuncId} {args : Array Value} (hw : Region.wanted o (yielded ops a.tmps) = true) (hr : (execOp a.eval o).run P w = .ok (.enter f args) w)
    (h : Calls P f args w fun e w' => ∃ v, e = .returned v ∧ C' w' ∧ tailC P ops C' Q rest (a.put o.dst v) w') : tailC P ops C' Q (o :: rest) a w :=
  ⟨hw, .inr ⟨f, args, w, hr⟩, by
    unfold Oper.wp
    rw [hr, Oper.upon_enter]
    exact h.mono fun e w' ⟨v, he, h1⟩ => by subst he; exact h1⟩
theorem takeY_succ {l : List WY} {k : Nat} (h : k < l.length) : l.take (k + 1) = l.take k ++ [ixY l k] := by
  rw [List.take_succ_eq_append_getElem h]
  simp [ixY, List.getD_eq_getElem?_getD, List.getElem?_eq_getElem h]
set_option maxHeartbeats 4000000 in
set_option maxRecDepth 100000 in
theorem text_any (v vx : Value) (p : GP) (x : XP) (w : World) (h : ProgIs w v p) (hx : ExplIs w vx x) (hnm : ∀ i, (ixS p.names i).data.toList.length ≤ 40) (hw : ∀ y ∈ x.whys, OkN w y.atom ∧ OkN w y.rule ∧ OkN w y.level) (hr : ∀ a ∈ x.rest, OkN w a) (hwl : x.whys.length ≤ 100) (hrl : x.rest.length ≤ 100) :
    Calls Tryz.prog 13 #[v, vx] w fun e w' => e = .returned (.string ⟨(textX p.names x).toArray⟩) ∧ Below w.heap.size w w' := by
  obtain ⟨vn, vs, vr, vm, rfl, hps⟩ := h
  obtain ⟨vw, ve, rfl, hwh, hre⟩ := hx
  obtain ⟨aw, cw, rfl, -, hwlen, -⟩ := hwh.form
  obtain ⟨ae, ce, rfl, -⟩ := hre.form
  have HN := Lib.hid hps.names
  have HW := Lib.hid hwh
  have HR := Lib.hid hre
  have HOW := Lib.hid hw
  have HOR := Lib.hid hr
  have HNL := Lib.hid hnm
  have HAI : Hid (∀ i, InI (ix x.rest i)) := Lib.hid fun i => hre.2 i
  obtain ⟨T1, hT1⟩ : ∃ t, whysT p.names x.whys = t := ⟨_, rfl⟩
  have hlen1 : T1.length ≤ 40000 := by
    have := flat_len (lineX p.names) 400 x.whys fun y hy => by
      have ha := name_len hnm (hw y hy).1.2
      have hb := (hw y hy).2.1.2
      have hc := (hw y hy).2.2.2
      unfold lineX
      simp only [List.length_append, List.length_cons, List.length_nil]
      omega
    rw [← hT1]; unfold whysT; omega
  have HT1 := Lib.hid hT1
  have HAL := Lib.hid (bal (bal (Below.refl w.heap.size w) (.cells #[.int .i64 p.n, vn, vs, vr, vm] 27)) (.cells #[.slice aw x.whys.length cw, .slice ae x.rest.length ce] 30))
  have HPB := Lib.hid ((Blk.new w [.int .i64 p.n, vn, vs, vr, vm] 27).alloc (.cells #[.slice aw x.whys.length cw, .slice ae x.rest.length ce] 30))
  have HXB := Lib.hid (Blk.newAt (w.alloc (.cells #[.int .i64 p.n, vn, vs, vr, vm] 27)) [.slice aw x.whys.length cw, .slice ae x.rest.length ce] 30 (show w.heap.size + 1 = _ by simp))
  have HSZ : Hid (((w.alloc (.cells #[.int .i64 p.n, vn, vs, vr, vm] 27)).alloc (.cells #[.slice aw x.whys.length cw, .slice ae x.rest.length ce] 30)).heap.size = w.heap.size + 1 + 1) := Lib.hid (by simp)
  clear hps hwh hre hw hr hnm hT1
  go_enter Tryz.func13, Tryz.ntmps13
  go_upto_region 3 with fail
  generalize (w.alloc (.cells #[.int .i64 p.n, vn, vs, vr, vm] 27)).alloc (.cells #[.slice aw x.whys.length cw, .slice ae x.rest.length ce] 30) = w2 at *
  have hz2 : w2.heap.size = w.heap.size + 1 + 1 := HSZ.out
  rw [← hz2]
  have hald := bal (Below.refl w2.heap.size w2) (.cells #[.pointer none, .slice none 0 0] 90)
  have HS0 : Hid (StT w w2.heap.size [.int .i64 p.n, vn, vs, vr, vm] [.slice aw x.whys.length cw, .slice ae x.rest.length ce] [] (w2.alloc (.cells #[.pointer none, .slice none 0 0] 90))) := Lib.hid ⟨.inl ⟨Nat.le_refl _, .slice none 0 0, Blk.new w2 [.pointer none, .slice none 0 0] _, World.ownsRowF_nil _ _ _ _, by simp [Value.ownBlock]⟩, bon HAL.out hald, HPB.out.alloc _, HXB.out.alloc _, by omega⟩
  have kx0 := HS0.out.xbx.cell
  clear hald hz2 HAL HPB HXB
  generalize w2.alloc (.cells #[.pointer none, .slice none 0 0] 90) = w3 at *
  generalize w2.heap.size = b at *
  go_wp2_with fail
  go_loopw [15] (fun i wx => Tx1Rel w b [.int .i64 p.n, vn, vs, vr, vm] [.slice aw x.whys.length cw, .slice ae x.rest.length ce] p.names x.whys i wx) (fun i _ => x.whys.length - (intOf i).toNat)
  case atStart => exact ⟨0, Nat.zero_le _, rfl, HS0.out⟩
  case round =>
    obtain ⟨k, hk, rfl, hst⟩ := hrel
    have HS := Lib.hid hst
    clear hst
    by_cases hlt : k < x.whys.length
    · obtain ⟨y, hy⟩ : ∃ y, ixY x.whys k = y := ⟨_, rfl⟩
      have hym : y ∈ x.whys := by rw [← hy]; exact ixY_mem0 hlt
      obtain ⟨o1, o2, o3⟩ := HOW.out y hym
      have hyi := HW.out.2 y hym
      have HYI := Lib.hid hyi
      obtain ⟨bw, off, rfl, hbw, hc0, hc1, hc2⟩ := (HW.out.below HS.out.below).at hlt
      rw [hy] at hc0 hc1 hc2
      have HTK : Hid (whysT p.names (x.whys.take (k + 1)) = whysT p.names (x.whys.take k) ++ lineX p.names y) := Lib.hid (by rw [takeY_succ hlt, hy, whysT_snoc])
      have HTL : Hid ((whysT p.names (x.whys.take k)).length + (lineX p.names y).length ≤ 40000) := Lib.hid (by
        have e := HTK.out
        have h1 := flat_len (lineX p.names) 400 (x.whys.take (k + 1)) fun z hz => by
          have hzm := List.mem_of_mem_take hz
          have ha := name_len HNL.out (HOW.out z hzm).1.2
          have hb := (HOW.out z hzm).2.1.2
          have hc := (HOW.out z hzm).2.2.2
          unfold lineX
          simp only [List.length_append, List.length_cons, List.length_nil]
          omega
        have h2 : (whysT p.names (x.whys.take (k + 1))).length ≤ 400 * (x.whys.take (k + 1)).length := h1
        rw [e, List.length_append, List.length_take] at h2
        omega)
      have HO1 := Lib.hid o1
      have HO2 := Lib.hid o2
      have HO3 := Lib.hid o3
      clear o1 o2 o3 hy hym
      go_upto_region 6 with fail
      have hal6 := bal (Below.refl wr.heap.size wr) (.cells #[.int .i64 y.atom, .int .i64 y.rule, .int .i64 y.level] 49)
      have HS6 := Lib.hid (HS.out.on hal6)
      have HY6 := Lib.hid (Blk.new wr [.int .i64 y.atom, .int .i64 y.rule, .int .i64 y.level] 49)
      clear hal6 hc0 hc1 hc2 hyi
      generalize wr.alloc (.cells #[.int .i64 y.atom, .int .i64 y.rule, .int .i64 y.level] 49) = W1 at *
      generalize wr.heap.size = yb at *
      have kc : ∀ e : Ext W1, ∀ o, e.world.cell? ⟨yb, o, none⟩ = [Value.int .i64 y.atom, .int .i64 y.rule, .int .i64 y.level][o]? := fun e o => (bcell e.below _ o HY6.out.lt).trans (HY6.out.cell o)
      have hs3 : (nameX p.names y.atom).size ≤ 101 := by rw [← ByteArray.size_data, ← Array.length_toList]; exact name_len HNL.out HO1.out.2
      have hs7 : (itS y.rule).size ≤ 100 := by rw [← ByteArray.size_data, ← Array.length_toList]; exact HO2.out.2
      have hs12 : (itS y.level).size ≤ 100 := by rw [← ByteArray.size_data, ← Array.length_toList]; exact HO3.out.2
      have HLN : Hid (lineX p.names y = (nameX p.names y.atom).data.toList ++ ([32, 98, 121, 32] ++ ((itS y.rule).data.toList ++ ([32, 108, 101, 118, 101, 108, 32] ++ ((itS y.level).data.toList ++ [10]))))) := Lib.hid rfl
      have HB6 : Hid (Below w.heap.size w W1) := Lib.hid HS6.out.below
      have HNA : Hid (∀ W, Below W1.heap.size W1 W → Calls Tryz.prog 48 #[.int .i64 y.atom, .pointer (some ⟨w.heap.size, 0, none⟩)] W fun e W' => e = .returned (.string (nameX p.names y.atom)) ∧ Below W.heap.size W W') := Lib.hid fun W hW =>
        name_any p.names vn vs vr vm p.n w.heap.size y.atom W HYI.out.1 (HN.out.below (bon HB6.out hW)) (HS6.out.pbx.below hW) (HO1.out.1.below (bon HB6.out hW)) (by rw [← ByteArray.size_data, ← Array.length_toList]; exact HO1.out.2)
      have HNR : Hid (∀ W, Below W1.heap.size W1 W → Calls Tryz.prog 49 #[.int .i64 y.rule] W fun e W' => e = .returned (.string (itS y.rule)) ∧ Below W.heap.size W W') := Lib.hid fun W hW => HO2.out.1 W (bon HB6.out hW)
      have HNV : Hid (∀ W, Below W1.heap.size W1 W → Calls Tryz.prog 49 #[.int .i64 y.level] W fun e W' => e = .returned (.string (itS y.level)) ∧ Below W.heap.size W W') := Lib.hid fun W hW => HO3.out.1 W (bon HB6.out hW)
      generalize hg3 : nameX p.names y.atom = s3 at *
      generalize hg7 : itS y.rule = s7 at *
      generalize hg12 : itS y.level = s12 at *
      clear hg3 hg7 hg12
      refine wp_region_tailC [0, 1, 2, 3, 4, 5, 6, 7, 8, 9, 10, 11, 12, 13, 14, 15] 15 (fun _ => True) (txΦ s3 s7 s12) (fun i => i == 3 || i == 7 || i == 12) (by kernel_rfl) (by kernel_rfl) (by kernel_rfl) (by kernel_rfl) (fun _ _ => trivial) (fun _ _ _ _ _ _ _ h _ => h) ?_
      simp only [reorder, List.map_cons, List.map_nil, List.getD_cons_zero, List.getD_cons_succ, reix, atIn, List.map_toArray, List.idxOf_cons, List.idxOf_nil, Nat.reduceBEq, cond_true, cond_false, beq_self_eq_true, Nat.reduceAdd, Option.map, List.take_succ_cons, List.take_zero, List.drop_succ_cons, List.drop_zero]
      iterate 3 (refine walkP_head (by kernel_rfl) rfl rfl rfl (fun K hK => ?_); go_big_quiet_op; refine hK _ ?_; clear hK K)
      refine walkP_mem rfl rfl (fun wa hba _ => ?_) (fun v3 lo hi _ _ g3 => ?_)
      · go_simp
        exact (HNA.out wa hba).mono fun e w2 ⟨h1, h2⟩ => ⟨_, h1, h2, .inl ⟨rfl, rfl⟩⟩
      obtain rfl : v3 = .string s3 := by obtain ⟨_, h⟩ := g3; simpa [txΦ] using h
      simp only [Act.put, List.setIfInBounds_toArray, List.set_cons_succ, List.set_cons_zero]
      iterate 3 (refine walkP_head (by kernel_rfl) rfl rfl rfl (fun K hK => ?_); go_big_quiet_op; refine hK _ ?_; clear hK K)
      refine walkP_mem rfl rfl (fun wa hba _ => ?_) (fun v7 lo hi _ _ g7 => ?_)
      · go_simp
        exact (HNR.out wa hba).mono fun e w2 ⟨h1, h2⟩ => ⟨_, h1, h2, .inr (.inl ⟨rfl, rfl⟩)⟩
      obtain rfl : v7 = .string s7 := by obtain ⟨_, h⟩ := g7; simpa [txΦ] using h
      simp only [Act.put, List.setIfInBounds_toArray, List.set_cons_succ, List.set_cons_zero]
      iterate 4 (refine walkP_head (by kernel_rfl) rfl rfl rfl (fun K hK => ?_); go_big_quiet_op; refine hK _ ?_; clear hK K)
      refine walkP_mem rfl rfl (fun wa hba _ => ?_) (fun v12 lo hi _ _ g12 => ?_)
      · go_simp
        exact (HNV.out wa hba).mono fun e w2 ⟨h1, h2⟩ => ⟨_, h1, h2, .inr (.inr ⟨rfl, rfl⟩)⟩
      obtain rfl : v12 = .string s12 := by obtain ⟨_, h⟩ := g12; simpa [txΦ] using h
      simp only [Act.put, List.setIfInBounds_toArray, List.set_cons_succ, List.set_cons_zero]
      iterate 2 (refine walkP_head (by kernel_rfl) rfl rfl rfl (fun K hK => ?_); go_big_quiet_op; refine hK _ ?_; clear hK K)
      intro wx hbx hF hI hP
      clear hF hI hP
      refine tailC_call rfl (runWS _ wx) ?_
      simp only [List.map_toArray, List.map_cons, List.map_nil, Act.eval, Array.append_empty, List.append_toArray]
      refine ((HS6.out.on hbx).ws (lineX p.names y) _ ((line_data s3 s7 s12).trans HLN.out.symm) (by have := HTL.out; omega)).mono ?_
      rintro e W9 ⟨rfl, hs9⟩
      rw [← HTK.out] at hs9
      refine ⟨_, rfl, trivial, ?_⟩
      simp only [tailC]
      go_wp2_with fail
      first
        | (go_roundw
           case rel => (exact ⟨k + 1, hlt, by go_num, hs9⟩)
           case measure => (simp [intOf]; omega))
        | (refine ⟨?_, ?_⟩
           · (exact ⟨k + 1, hlt, by go_num, hs9⟩)
           · (simp [intOf]; omega))
    · obtain rfl : k = x.whys.length := by omega
      have HSE : Hid (StT w b [.int .i64 p.n, vn, vs, vr, vm] [.slice aw x.whys.length cw, .slice ae x.rest.length ce] T1 wr) := Lib.hid (by have := HS.out; rwa [List.take_length, HT1.out] at this)
      have kx1 := HSE.out.xbx.cell
      clear HS
      by_cases hr0 : x.rest.length = 0
      · have HF : Hid (textX p.names x = T1) := Lib.hid (by unfold textX restT; rw [if_pos hr0, List.append_nil, HT1.out])
        go_wp2_with (go_at_call 51; (with_reducible refine (Tryz.Builder_String_any_k b b _ _ HSE.out.bld (by have := HSE.out.blt; omega)).mono ?_); rintro e w5 ⟨rfl, -, hb5, -⟩)
        go_ret
        exact ⟨by rw [HF.out]; rfl, HSE.out.below.trans (hb5.mono (by have := HSE.out.lt; omega))⟩
      · have hlt0 : 0 < x.rest.length := by omega
        have HF : Hid (textX p.names x = (T1 ++ [114, 101, 115, 116]) ++ (atomsT p.names x.rest ++ [10])) := Lib.hid (by unfold textX restT; rw [if_neg hr0, HT1.out]; simp [List.append_assoc])
        have HTA : Hid (∀ k, (atomsT p.names (x.rest.take k)).length ≤ 10200) := Lib.hid fun k => by
          have h1 := flat_len (fun a => [32] ++ (nameX p.names a).data.toList) 102 (x.rest.take k) fun a ha => by
            have := name_len HNL.out (HOR.out a (List.mem_of_mem_take ha)).2
            simp only [List.length_append, List.length_cons, List.length_nil]
            omega
          have h2 : (atomsT p.names (x.rest.take k)).length ≤ 102 * (x.rest.take k).length := h1
          rw [List.length_take] at h2
          omega
        have HT1L := Lib.hid hlen1
        go_upto_region 10 with (go_at_call 50; (with_reducible refine (HSE.out.ws [114, 101, 115, 116] _ rfl (by have := HT1L.out; simp; omega)).mono ?_); rintro e w5 ⟨rfl, hs5⟩)
        have HS5 := Lib.hid hs5
        have kx5 := hs5.xbx.cell
        clear hs5 kx1
        go_wp2_with fail
        go_loopw [44] (fun i wx => Tx2Rel w b [.int .i64 p.n, vn, vs, vr, vm] [.slice aw x.whys.length cw, .slice ae x.rest.length ce] p.names (T1 ++ [114, 101, 115, 116]) x.rest i wx) (fun i _ => x.rest.length - (intOf i).toNat)
        case atStart => exact ⟨0, Nat.zero_le _, rfl, by have := HS5.out; simpa [atomsT] using this⟩
        case round =>
          obtain ⟨k, hk, rfl, hst⟩ := hrel
          have HS := Lib.hid hst
          clear hst
          by_cases hlt : k < x.rest.length
          · obtain ⟨a, ha⟩ : ∃ a, ix x.rest k = a := ⟨_, rfl⟩
            have ham : a ∈ x.rest := by rw [← ha]; exact ix_mem hlt
            have HOA := Lib.hid (HOR.out a ham)
            have HIA : Hid (InI a) := Lib.hid (by rw [← ha]; exact HAI.out k)
            obtain ⟨br, off, rfl, hbr, hc⟩ := (HR.out.below HS.out.below).at hlt
            rw [ha] at hc
            have HTK : Hid ((T1 ++ [114, 101, 115, 116]) ++ atomsT p.names (x.rest.take (k + 1)) = ((T1 ++ [114, 101, 115, 116]) ++ atomsT p.names (x.rest.take k)) ++ ([32] ++ (nameX p.names a).data.toList)) := Lib.hid (by rw [take_ix _ _ hlt, ha, atomsT_snoc]; simp only [List.append_assoc])
            have hs3 : (nameX p.names a).size ≤ 101 := by rw [← ByteArray.size_data, ← Array.length_toList]; exact name_len HNL.out HOA.out.2
            have HLL : Hid (((T1 ++ [114, 101, 115, 116]) ++ atomsT p.names (x.rest.take k)).length + ([32] ++ (nameX p.names a).data.toList).length ≤ 1000000) := Lib.hid (by
              have h1 := HTA.out k
              have h2 := name_len HNL.out HOA.out.2
              have h3 := HT1L.out
              simp only [List.length_append, List.length_cons, List.length_nil]
              omega)
            have HNA : Hid (∀ W, Below w.heap.size w W → Blk W w.heap.size [.int .i64 p.n, vn, vs, vr, vm] 27 → Calls Tryz.prog 48 #[.int .i64 a, .pointer (some ⟨w.heap.size, 0, none⟩)] W fun e W' => e = .returned (.string (nameX p.names a)) ∧ Below W.heap.size W W') := Lib.hid fun W hW hB =>
              name_any p.names vn vs vr vm p.n w.heap.size a W HIA.out (HN.out.below hW) hB (HOA.out.1.below hW) (by rw [← ByteArray.size_data, ← Array.length_toList]; exact HOA.out.2)
            have HSD : Hid ((⟨#[32]⟩ ++ nameX p.names a : ByteArray).data.toList = [32] ++ (nameX p.names a).data.toList) := Lib.hid (by rw [ByteArray.data_append]; simp)
            clear ha ham
            go_upto_region 13 with fail
            clear hc
            go_wp2_with (first
              | (go_at_call 50; (with_reducible refine (HS14.out.ws _ _ HSD.out HLL.out).mono ?_); rintro e w7 ⟨rfl, hs7⟩)
              | (go_at_call 48; (with_reducible refine (HNA.out _ HS.out.below HS.out.pbx).mono ?_); rintro e w6 ⟨rfl, hb6⟩; have HS14 := Lib.hid (HS.out.on hb6); clear hb6))
            rw [← HTK.out] at hs7
            first
              | (go_roundw
                 case rel => (exact ⟨k + 1, hlt, by go_num, hs7⟩)
                 case measure => (simp [intOf]; omega))
              | (refine ⟨?_, ?_⟩
                 · (exact ⟨k + 1, hlt, by go_num, hs7⟩)
                 · (simp [intOf]; omega))
          · obtain rfl : k = x.rest.length := by omega
            have HSF : Hid (StT w b [.int .i64 p.n, vn, vs, vr, vm] [.slice aw x.whys.length cw, .slice ae x.rest.length ce] ((T1 ++ [114, 101, 115, 116]) ++ atomsT p.names x.rest) wr) := Lib.hid (by have := HS.out; rwa [List.take_length] at this)
            have HLF : Hid (((T1 ++ [114, 101, 115, 116]) ++ atomsT p.names x.rest).length + [(10 : UInt8)].length ≤ 1000000) := Lib.hid (by
              have h1 := HTA.out x.rest.length
              rw [List.take_length] at h1
              have h3 := HT1L.out
              simp only [List.length_append, List.length_cons, List.length_nil]
              omega)
            clear HS
            go_wp2_with (first
              | (go_at_call 51; (with_reducible refine (Tryz.Builder_String_any_k b b _ _ HSG.out.bld (Nat.le_of_lt HSG.out.blt)).mono ?_); rintro e w8 ⟨rfl, -, hb8, -⟩)
              | (go_at_call 50; (with_reducible refine (HSF.out.ws [10] _ rfl HLF.out).mono ?_); rintro e w7 ⟨rfl, hs7⟩; have HSG := Lib.hid hs7; clear hs7))
            go_ret
            have e9 : (T1 ++ 114 :: 101 :: 115 :: 116 :: (atomsT p.names x.rest ++ [10])).toArray = (textX p.names x).toArray := by rw [HF.out]; simp
            exact ⟨(congrArg (fun z : Array UInt8 => Ending.returned (Value.string ⟨z⟩)) e9), HSG.out.below.trans (hb8.mono (by have := HSG.out.lt; omega))⟩
end Go.Proofs.YtgakoainjgjimaaGreatDoor
