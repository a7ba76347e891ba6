/- My texts Perm2, Perm3, merged. -/
import Derived.Test.YteblddnoegbalaaGreatM01
import Derived.Test.YteblddnoegbalaaGreatM00
import Derived.Test.YteblddnoegbalaaGreatProg
import Derived.WalkKit
import Derived.Lib.Hide
import Derived.Deep.QuietTactic
import Derived.BigQuiet

namespace Go.Proofs.YteblddnoegbalaaGreat
open Go.RowKit
section
variable {P : Program} {l : List Oper} {w0 : World} {Φ : Nat → List Value → Value → Nat → Nat → World → Prop} {ism : Nat → Bool} {D : Nat → Nat → Bool} {Q : Exit → Act → World → Prop} {E : Act → World → Prop} {Cl : Nat → World → Prop} {n : Nat} {a0 : Act}
def opAt (l : List Oper) (i : Nat) : Oper := l.getD i default
def Afr (l : List Oper) (a0 : Act) (vals : Nat → Value) (i : Nat) : Act := fr l.toArray vals (fun _ => true) a0 i
def Good (P : Program) (l : List Oper) (w0 : World) (Cl : Nat → World → Prop) (Φ : Nat → List Value → Value → Nat → Nat → World → Prop) (ism : Nat → Bool) (a0 : Act) (vals : Nat → Value) (lo hi : Nat → Nat) (w : World) (i : Nat) : Prop :=
  if ism i then Φ i (argsOf (opAt l i) (Afr l a0 vals i)) (vals i) (lo i) (hi i) w ∧ w0.heap.size ≤ lo i ∧ lo i ≤ hi i ∧ hi i ≤ w.heap.size
  else ∀ w', Cl i w' → DetStep P l.toArray (opAt l i) (Afr l a0 vals i) w' (vals i)
def factsOf (l : List Oper) (Φ : Nat → List Value → Value → Nat → Nat → World → Prop) (ism : Nat → Bool) (a0 : Act) (vals : Nat → Value) (lo hi : Nat → Nat) : Nat → List (Nat × (World → Prop))
  | 0 => []
  | k + 1 => if ism k then (k, Φ k (argsOf (opAt l k) (Afr l a0 vals k)) (vals k) (lo k) (hi k)) :: factsOf l Φ ism a0 vals lo hi k else factsOf l Φ ism a0 vals lo hi k
def intsOf (ism : Nat → Bool) (lo hi : Nat → Nat) : Nat → List (Nat × Nat)
  | 0 => []
  | k + 1 => if ism k then (lo k, hi k) :: intsOf ism lo hi k else intsOf ism lo hi k
def updN {α : Type} (f : Nat → α) (k : Nat) (v : α) : Nat → α := fun j => if j = k then v else f j
theorem updN_same {α : Type} (f : Nat → α) (k : Nat) (v : α) : updN f k v k = v := by simp [updN]
theorem updN_other {α : Type} (f : Nat → α) {k j : Nat} (v : α) (h : j ≠ k) : updN f k v j = f j := by simp [updN, h]
theorem opAt_eq {i : Nat} (h : i < l.length) : l.toArray[i]? = some (opAt l i) := by simp [opAt, List.getD, h]
theorem facts_congr {vals vals' : Nat → Value} {lo lo' hi hi' : Nat → Nat} : ∀ k, (∀ j, j < k → vals j = vals' j ∧ lo j = lo' j ∧ hi j = hi' j) → factsOf l Φ ism a0 vals lo hi k = factsOf l Φ ism a0 vals' lo' hi' k
  | 0, _ => rfl
  | k + 1, h => by
    obtain ⟨h1, h2, h3⟩ := h k (by omega)
    have e : Afr l a0 vals k = Afr l a0 vals' k := fr_congr k (fun j hj => ⟨rfl, fun _ => (h j (by omega)).1⟩)
    unfold factsOf
    rw [facts_congr k (fun j hj => h j (by omega)), e, h1, h2, h3]
theorem ints_congr {lo lo' hi hi' : Nat → Nat} : ∀ k, (∀ j, j < k → lo j = lo' j ∧ hi j = hi' j) → intsOf ism lo hi k = intsOf ism lo' hi' k
  | 0, _ => rfl
  | k + 1, h => by
    obtain ⟨h1, h2⟩ := h k (by omega)
    unfold intsOf
    rw [ints_congr k (fun j hj => h j (by omega)), h1, h2]
theorem mem_facts {vals : Nat → Value} {lo hi : Nat → Nat} : ∀ k p, p ∈ factsOf l Φ ism a0 vals lo hi k → ∃ j, j < k ∧ ism j = true ∧ p = (j, Φ j (argsOf (opAt l j) (Afr l a0 vals j)) (vals j) (lo j) (hi j))
  | 0, p, h => by cases h
  | k + 1, p, h => by
    unfold factsOf at h
    split at h
    · rename_i hk
      rcases List.mem_cons.1 h with rfl | h
      · exact ⟨k, by omega, hk, rfl⟩
      · obtain ⟨j, h1, h2⟩ := mem_facts k p h
        exact ⟨j, by omega, h2⟩
    · obtain ⟨j, h1, h2⟩ := mem_facts k p h
      exact ⟨j, by omega, h2⟩
theorem mem_ints {lo hi : Nat → Nat} : ∀ k p, p ∈ intsOf ism lo hi k → ∃ j, j < k ∧ ism j = true ∧ p = (lo j, hi j)
  | 0, p, h => by cases h
  | k + 1, p, h => by
    unfold intsOf at h
    split at h
    · rename_i hk
      rcases List.mem_cons.1 h with rfl | h
      · exact ⟨k, by omega, hk, rfl⟩
      · obtain ⟨j, h1, h2⟩ := mem_ints k p h
        exact ⟨j, by omega, h2⟩
    · obtain ⟨j, h1, h2⟩ := mem_ints k p h
      exact ⟨j, by omega, h2⟩
theorem ints_pair {lo hi : Nat → Nat} : ∀ k, (∀ i j, i < k → j < k → ism i = true → ism j = true → i ≠ j → hi i ≤ lo j ∨ hi j ≤ lo i) → (intsOf ism lo hi k).Pairwise (fun p q => p.2 ≤ q.1 ∨ q.2 ≤ p.1)
  | 0, _ => List.Pairwise.nil
  | k + 1, h => by
    unfold intsOf
    split
    · rename_i hk
      refine List.Pairwise.cons (fun q hq => ?_) (ints_pair k (fun i j hi hj => h i j (by omega) (by omega)))
      obtain ⟨j, h1, h2, rfl⟩ := mem_ints k q hq
      exact h k j (by omega) (by omega) hk h2 (by omega)
    · exact ints_pair k (fun i j hi hj => h i j (by omega) (by omega))
theorem agree_vals (c : Chk l.toArray D) {i : Nat} (hi : i < l.length) {vals vals' : Nat → Value} (h : ∀ j, j < l.length → D i j = true → vals j = vals' j) : Agree l.toArray (opAt l i) (Afr l a0 vals i) (Afr l a0 vals' i) :=
  agree_fold i fun j hj => by
    cases hd : D i j with
    | true => exact .inl ⟨rfl, fun _ => h j (by omega) hd⟩
    | false =>
      refine .inr fun d hdst hmem => ?_
      have hap := c.apart i j _ _ (opAt_eq hi) (opAt_eq (l := l) (i := j) (by omega)) hj hd
      exact (Oper.apart_spec hap).2.2 d (by simpa [dstOf, opAt_eq (l := l) (i := j) (by omega)] using hdst) hmem
theorem Good.congr (c : Chk l.toArray D) {i : Nat} (hi : i < l.length) {vals vals' : Nat → Value} {lo lo' hi1 hi1' : Nat → Nat} {w : World} (h : ∀ j, j < l.length → D i j = true → vals j = vals' j)
    (hv : vals i = vals' i) (hl : lo i = lo' i) (hh : hi1 i = hi1' i) (hg : Good P l w0 Cl Φ ism a0 vals lo hi1 w i) : Good P l w0 Cl Φ ism a0 vals' lo' hi1' w i := by
  have ha := agree_vals (a0 := a0) c hi h
  unfold Good at *
  split
  · rename_i hm
    rw [if_pos hm] at hg
    rw [← ha.args, ← hv, ← hl, ← hh]
    exact hg
  · rename_i hm
    rw [if_neg hm] at hg
    rw [← hv]
    exact fun w' hw' => (hg w' hw').agree (fun cs b => c.sel i _ cs b (opAt_eq hi)) ha
theorem Good.later (hΦ : ∀ i args v lo hi w w', Φ i args v lo hi w → Below w.heap.size w w' → Φ i args v lo hi w') {i : Nat} {vals : Nat → Value} {lo hi : Nat → Nat} {w w' : World} (hb : Below w.heap.size w w')
    (hg : Good P l w0 Cl Φ ism a0 vals lo hi w i) : Good P l w0 Cl Φ ism a0 vals lo hi w' i := by
  unfold Good at *
  split
  · rename_i hm
    rw [if_pos hm] at hg
    exact ⟨hΦ _ _ _ _ _ _ _ hg.1 hb, hg.2.1, hg.2.2.1, Nat.le_trans hg.2.2.2 hb.size⟩
  · rename_i hm
    rw [if_neg hm] at hg
    exact hg
theorem Afr_succ (l : List Oper) (a0 : Act) (vals : Nat → Value) {k : Nat} (hk : k < l.length) : Afr l a0 vals (k + 1) = (Afr l a0 vals k).put (opAt l k).dst (vals k) := by
  have e : dstOf l.toArray k = (opAt l k).dst := by simp only [dstOf, opAt_eq hk, Option.bind_some]
  unfold Afr
  rw [fr, if_pos rfl, e]
theorem complete (hn : n ≤ l.length) (hCl : ∀ i w, Below w0.heap.size w0 w → Cl i w) (c : Chk l.toArray D) (hΦ : ∀ i args v lo hi w w', Φ i args v lo hi w → Below w.heap.size w w' → Φ i args v lo hi w')
    (hw : walkP P l.toArray w0 Cl Φ ism D E (l.take n) 0 a0 [] []) {L : Nat → Bool} {w : World} {vals : Nat → Value} {lo hi : Nat → Nat} (hb : Below w0.heap.size w0 w)
    (hcl : ∀ i, i < n → L i = true → ∀ j, j < n → D i j = true → L j = true)
    (hg : ∀ i, i < n → L i = true → Good P l w0 Cl Φ ism a0 vals lo hi w i)
    (hdj : ∀ i j, i < n → j < n → L i = true → L j = true → ism i = true → ism j = true → i ≠ j → hi i ≤ lo j ∨ hi j ≤ lo i) :
    ∀ k, k ≤ n → ∃ (vals' : Nat → Value) (lo' hi' : Nat → Nat) (w' : World), (∀ j, L j = true → vals' j = vals j ∧ lo' j = lo j ∧ hi' j = hi j) ∧ Below w.heap.size w w' ∧ Below w0.heap.size w0 w' ∧
      (∀ i, i < n → (L i = true ∨ i < k) → Good P l w0 Cl Φ ism a0 vals' lo' hi' w' i) ∧
      (∀ i j, i < n → j < n → (L i = true ∨ i < k) → (L j = true ∨ j < k) → ism i = true → ism j = true → i ≠ j → hi' i ≤ lo' j ∨ hi' j ≤ lo' i) ∧
      walkP P l.toArray w0 Cl Φ ism D E ((l.take n).drop k) k (Afr l a0 vals' k) (factsOf l Φ ism a0 vals' lo' hi' k) (intsOf ism lo' hi' k) := by
  intro k
  induction k with
  | zero =>
    intro _
    exact ⟨vals, lo, hi, w, fun _ _ => ⟨rfl, rfl, rfl⟩, Below.refl _ _, hb, fun i h1 h2 => hg i h1 (h2.resolve_right (by omega)), fun i j h1 h2 h3 h4 => hdj i j h1 h2 (h3.resolve_right (by omega)) (h4.resolve_right (by omega)), hw⟩
  | succ k ih =>
    intro hk
    obtain ⟨v1, lo1, hi1, w1, e1, b1, c1, g1, d1, walk⟩ := ih (by omega)
    have hkn : k < n := by omega
    have hkl : k < l.length := by omega
    have hdrop : (l.take n).drop k = opAt l k :: (l.take n).drop (k + 1) := by
      rw [List.drop_eq_getElem_cons (by simp; omega)]
      simp [opAt, List.getD, hkl]
    rw [hdrop] at walk
    unfold walkP at walk
    by_cases hm : ism k = true
    · rw [if_pos hm] at walk
      obtain ⟨hstep, hrest⟩ := walk
      by_cases hL : L k = true
      · have hgk := g1 k hkn (.inl hL)
        have hgk' := hgk
        unfold Good at hgk'
        rw [if_pos hm] at hgk'
        refine ⟨v1, lo1, hi1, w1, e1, b1, c1, fun i h1 h2 => ?_, fun i j h1 h2 h3 h4 => ?_, ?_⟩
        · by_cases hik : i = k
          · subst hik; exact hgk
          · exact g1 i h1 (h2.imp id (by omega))
        · have hi' : L i = true ∨ i < k := by
            by_cases hik : i = k
            · subst hik; exact .inl hL
            · exact h3.imp id (by omega)
          have hj' : L j = true ∨ j < k := by
            by_cases hjk : j = k
            · subst hjk; exact .inl hL
            · exact h4.imp id (by omega)
          exact d1 i j h1 h2 hi' hj'
        · have := hrest (v1 k) (lo1 k) (hi1 k) hgk'.2.1 hgk'.2.2.1 ⟨w1, hgk'.1⟩
          rw [Afr_succ l a0 v1 hkl]
          unfold factsOf intsOf
          rw [if_pos hm, if_pos hm]
          exact this
      · obtain ⟨v, w2, hb2, hΦ2⟩ := (hstep w1 c1 (fun p hp _ => by
          obtain ⟨j, h1, h2, rfl⟩ := mem_facts k p hp
          have := g1 j (by omega) (.inr h1)
          unfold Good at this
          rw [if_pos h2] at this
          exact this.1)).some
        have ef : Afr l a0 (updN v1 k v) k = Afr l a0 v1 k := fr_congr k (fun j hj => ⟨rfl, fun _ => updN_other _ _ (by omega)⟩)
        have hother : ∀ i, i < n → i ≠ k → (L i = true ∨ i < k) → Good P l w0 Cl Φ ism a0 (updN v1 k v) (updN lo1 k w1.heap.size) (updN hi1 k w2.heap.size) w2 i := fun i h1 h2 h3 => by
          refine Good.congr c (by omega) (fun j hjl hj => ?_) (updN_other _ _ h2).symm (updN_other _ _ h2).symm (updN_other _ _ h2).symm ((g1 i h1 h3).later hΦ hb2)
          have hjk : j ≠ k := by
            rintro rfl
            rcases h3 with h3 | h3
            · exact hL (hcl i h1 h3 j hkn hj)
            · have := c.lt i j (by simp; omega) (by simpa using hkl) hj; omega
          exact (updN_other _ _ hjk).symm
        refine ⟨updN v1 k v, updN lo1 k w1.heap.size, updN hi1 k w2.heap.size, w2, fun j hj => ?_, b1.trans (hb2.mono b1.size), c1.trans (hb2.mono c1.size), fun i h1 h2 => ?_, fun i j h1 h2 h3 h4 m1 m2 hne => ?_, ?_⟩
        · have hjk : j ≠ k := by rintro rfl; exact hL hj
          rw [updN_other _ _ hjk, updN_other _ _ hjk, updN_other _ _ hjk]
          exact e1 j hj
        · by_cases hik : i = k
          · subst hik
            unfold Good
            rw [if_pos hm, updN_same, updN_same, updN_same, ef]
            exact ⟨hΦ2, c1.size, hb2.size, Nat.le_refl _⟩
          · exact hother i h1 hik (h2.imp id (by omega))
        · have hle : ∀ j, j < n → j ≠ k → (L j = true ∨ j < k) → ism j = true → hi1 j ≤ w1.heap.size := fun j h1 _ h2 h3 => by
            have := g1 j h1 h2
            unfold Good at this
            rw [if_pos h3] at this
            exact this.2.2.2
          by_cases hik : i = k
          · subst hik
            have hji : j ≠ i := fun e => hne e.symm
            rw [updN_same, updN_same, updN_other _ _ hji, updN_other _ _ hji]
            exact .inr (hle j h2 hji (h4.imp id (by omega)) m2)
          · by_cases hjk : j = k
            · subst hjk
              rw [updN_same, updN_same, updN_other _ _ hik, updN_other _ _ hik]
              exact .inl (hle i h1 hik (h3.imp id (by omega)) m1)
            · rw [updN_other _ _ hik, updN_other _ _ hik, updN_other _ _ hjk, updN_other _ _ hjk]
              exact d1 i j h1 h2 (h3.imp id (by omega)) (h4.imp id (by omega)) m1 m2 hne
        · have := hrest v w1.heap.size w2.heap.size c1.size hb2.size ⟨w2, hΦ2⟩
          rw [Afr_succ l a0 _ hkl]
          unfold factsOf intsOf
          rw [if_pos hm, if_pos hm, updN_same, updN_same, updN_same, ef,
            facts_congr k (vals' := v1) (lo' := lo1) (hi' := hi1) (fun j hj => ⟨updN_other _ _ (by omega), updN_other _ _ (by omega), updN_other _ _ (by omega)⟩),
            ints_congr k (lo' := lo1) (hi' := hi1) (fun j hj => ⟨updN_other _ _ (by omega), updN_other _ _ (by omega)⟩)]
          exact this
    · rw [if_neg hm] at walk
      obtain ⟨v, hdet, hrest⟩ := walk
      by_cases hL : L k = true
      · have hgk := g1 k hkn (.inl hL)
        have hgk' := hgk
        unfold Good at hgk'
        rw [if_neg hm] at hgk'
        have ev : v = v1 k := (hdet w1 (hCl k w1 c1)).unique (hgk' w1 (hCl k w1 c1))
        subst ev
        refine ⟨v1, lo1, hi1, w1, e1, b1, c1, fun i h1 h2 => ?_, fun i j h1 h2 h3 h4 => ?_, ?_⟩
        · by_cases hik : i = k
          · subst hik; exact hgk
          · exact g1 i h1 (h2.imp id (by omega))
        · have hi' : L i = true ∨ i < k := by
            by_cases hik : i = k
            · subst hik; exact .inl hL
            · exact h3.imp id (by omega)
          have hj' : L j = true ∨ j < k := by
            by_cases hjk : j = k
            · subst hjk; exact .inl hL
            · exact h4.imp id (by omega)
          exact d1 i j h1 h2 hi' hj'
        · rw [Afr_succ l a0 v1 hkl]
          unfold factsOf intsOf
          rw [if_neg hm, if_neg hm]
          exact hrest
      · have ef : Afr l a0 (updN v1 k v) k = Afr l a0 v1 k := fr_congr k (fun j hj => ⟨rfl, fun _ => updN_other _ _ (by omega)⟩)
        have hother : ∀ i, i < n → i ≠ k → (L i = true ∨ i < k) → Good P l w0 Cl Φ ism a0 (updN v1 k v) lo1 hi1 w1 i := fun i h1 h2 h3 => by
          refine Good.congr c (by omega) (fun j hjl hj => ?_) (updN_other _ _ h2).symm rfl rfl (g1 i h1 h3)
          have hjk : j ≠ k := by
            rintro rfl
            rcases h3 with h3 | h3
            · exact hL (hcl i h1 h3 j hkn hj)
            · have := c.lt i j (by simp; omega) (by simpa using hkl) hj; omega
          exact (updN_other _ _ hjk).symm
        refine ⟨updN v1 k v, lo1, hi1, w1, fun j hj => ?_, b1, c1, fun i h1 h2 => ?_, fun i j h1 h2 h3 h4 m1 m2 hne => ?_, ?_⟩
        · have hjk : j ≠ k := by rintro rfl; exact hL hj
          rw [updN_other _ _ hjk]
          exact e1 j hj
        · by_cases hik : i = k
          · subst hik
            unfold Good
            rw [if_neg hm, updN_same, ef]
            exact hdet
          · exact hother i h1 hik (h2.imp id (by omega))
        · have hik : i ≠ k := by rintro rfl; exact hm m1
          have hjk : j ≠ k := by rintro rfl; exact hm m2
          exact d1 i j h1 h2 (h3.imp id (by omega)) (h4.imp id (by omega)) m1 m2 hne
        · rw [Afr_succ l a0 _ hkl]
          unfold factsOf intsOf
          rw [if_neg hm, if_neg hm, updN_same, ef,
            facts_congr k (vals' := v1) (lo' := lo1) (hi' := hi1) (fun j hj => ⟨updN_other _ _ (by omega), rfl, rfl⟩)]
          exact hrest
theorem fr_put {ops : Array Oper} {vals vals' : Nat → Value} {L L' : Nat → Bool} {i : Nat} {v : Value} (h0 : L i = false) (h1 : L' i = true) (hL : ∀ j, j ≠ i → L' j = L j) (hv : ∀ j, j ≠ i → vals' j = vals j) (hvi : vals' i = v) :
    ∀ k, i < k → (∀ j, i < j → j < k → L j = true → ∀ d, dstOf ops i = some d → dstOf ops j ≠ some d) → fr ops vals' L' a0 k = (fr ops vals L a0 k).put (dstOf ops i) v
  | 0, h, _ => by omega
  | k + 1, h, hd => by
    rcases Nat.lt_or_ge i k with hlt | hge
    · have hk : k ≠ i := by omega
      rw [fr, fr, fr_put h0 h1 hL hv hvi k hlt (fun j h2 h3 => hd j h2 (by omega)), hL k hk]
      split
      · rename_i hl
        rw [hv k hk]
        exact Act.put_comm _ _ _ (hd k hlt (by omega) hl)
      · rfl
    · obtain rfl : i = k := by omega
      rw [fr, fr, if_pos h1, h0, hvi, fr_congr i (fun j hj => ⟨(hL j (by omega)), fun _ => hv j (by omega)⟩)]
      rfl
def unl (listed : Array Bool) : Nat → Nat
  | 0 => 0
  | k + 1 => (if listed.getD k false then 0 else 1) + unl listed k
theorem unl_zero {listed : Array Bool} : ∀ k, unl listed k = 0 → ∀ j, j < k → listed.getD j false = true
  | 0, _, j, hj => by omega
  | k + 1, h, j, hj => by
    unfold unl at h
    by_cases hk : listed.getD k false = true
    · rcases Nat.lt_or_ge j k with h1 | h1
      · exact unl_zero k (by omega) j h1
      · obtain rfl : j = k := by omega
        exact hk
    · rw [if_neg hk] at h; omega
theorem getD_set {listed : Array Bool} {i : Nat} (hi : i < listed.size) (j : Nat) : (listed.setIfInBounds i true).getD j false = if j = i then true else listed.getD j false := by
  split
  · rename_i h; subst h; simp [hi]
  · rename_i h; exact getD_set_ne false (Ne.symm h)
theorem unl_set {listed : Array Bool} {i : Nat} (hi : i < listed.size) (h0 : listed.getD i false = false) : ∀ k, (k ≤ i → unl (listed.setIfInBounds i true) k = unl listed k) ∧ (i < k → unl (listed.setIfInBounds i true) k + 1 = unl listed k)
  | 0 => ⟨fun _ => rfl, fun h => by omega⟩
  | k + 1 => by
    obtain ⟨h1, h2⟩ := unl_set hi h0 k
    unfold unl
    rw [getD_set hi]
    refine ⟨fun h => ?_, fun h => ?_⟩
    · simp only [if_neg (show ¬ k = i by omega)]
      rw [h1 (by omega)]
    · rcases Nat.lt_or_ge i k with h3 | h3
      · simp only [if_neg (show ¬ k = i by omega)]
        have := h2 h3
        omega
      · obtain rfl : i = k := by omega
        rw [h0, h1 (Nat.le_refl _)]
        simp; omega
theorem agree_real (c : Chk l.toArray D) {listed : Array Bool} {vals v1 : Nat → Value} {i : Nat} (hil : i < l.length) (hiun : listed.getD i false = false)
    (hdeps : ∀ j, j < l.length → D i j = true → listed.getD j false = true) (hcl : ∀ k, k < l.length → listed.getD k false = true → D k i = false)
    (e1 : ∀ j, j < i → listed.getD j false = true → v1 j = vals j) : Agree l.toArray (opAt l i) (Afr l a0 v1 i) (fr l.toArray vals (fun j => listed.getD j false) a0 l.length) := by
  have hafr : Afr l a0 v1 i = fr l.toArray v1 (fun j => decide (j < i)) a0 l.length := by
    rw [fr_trunc i l.length (by omega) (fun j h1 _ => by simpa using h1)]
    exact fr_congr i (fun j hj => ⟨by simp [hj], fun _ => rfl⟩)
  rw [hafr]
  refine agree_fold _ fun j hj => ?_
  have hjo := opAt_eq (l := l) hj
  have hdj' : ∀ d, dstOf l.toArray j = some d → (opAt l j).dst = some d := fun d h => by simpa [dstOf, hjo] using h
  rcases Nat.lt_trichotomy j i with hji | rfl | hji
  · cases hd : D i j with
    | true =>
      have hlj := hdeps j hj hd
      exact .inl ⟨by rw [hlj]; simpa using hji, fun _ => e1 j hji hlj⟩
    | false =>
      refine .inr fun d hdst => ?_
      exact (Oper.apart_spec (c.apart i j _ _ (opAt_eq hil) hjo hji hd)).2.2 d (hdj' d hdst)
  · exact .inl ⟨by rw [hiun]; simp, fun h => by simp at h⟩
  · cases hlj : listed.getD j false with
    | false => exact .inl ⟨by simp; omega, fun h => by simp at h; omega⟩
    | true =>
      refine .inr fun d hdst => ?_
      exact (Oper.apart_spec (c.apart j i _ _ hjo (opAt_eq hil) hji (hcl j hj hlj))).1 d (hdj' d hdst)
theorem fr_step (c : Chk l.toArray D) {listed : Array Bool} {vals : Nat → Value} {i : Nat} (hil : i < l.length) (hlt : i < listed.size) (hiun : listed.getD i false = false)
    (hcl : ∀ k, k < l.length → listed.getD k false = true → D k i = false) (v : Value) :
    (fr l.toArray vals (fun j => listed.getD j false) a0 l.length).put (opAt l i).dst v = fr l.toArray (updN vals i v) (fun j => (listed.setIfInBounds i true).getD j false) a0 l.length := by
  have hdi : dstOf l.toArray i = (opAt l i).dst := by simp only [dstOf, opAt_eq hil, Option.bind_some]
  rw [fr_put (vals := vals) (L := fun j => listed.getD j false) (i := i) (v := v) hiun (by rw [getD_set hlt, if_pos rfl]) (fun j hj => by rw [getD_set hlt, if_neg hj]) (fun j hj => updN_other _ _ hj) (updN_same _ _ _) l.length hil ?_, hdi]
  intro j hij hj hlj d hd1 hd2
  rw [hdi] at hd1
  have hdj : dstOf l.toArray j = (opAt l j).dst := by simp only [dstOf, opAt_eq hj, Option.bind_some]
  rw [hdj] at hd2
  exact (Oper.apart_spec (c.apart j i _ _ (opAt_eq hj) (opAt_eq hil) hij (hcl j hj hlj))).2.1 d hd2 hd1
theorem all_listed (c : Chk l.toArray D) {listed : Array Bool} (hsz : listed.size = l.length) (hr : Region.ready .any l.toArray listed = []) : ∀ i, i < l.length → listed.getD i false = true := by
  intro i
  induction i using Nat.strongRecOn with
  | ind i ih =>
    intro hi'
    cases hli : listed.getD i false with
    | true => rfl
    | false =>
      exfalso
      have hmem : i ∈ Region.ready .any l.toArray listed := by
        refine mem_ready.2 ⟨?_, _, opAt_eq hi', fun e he hbnd => ?_⟩
        · have hlt : i < listed.size := by omega
          simp [hlt] at hli ⊢
          exact hli
        · exact ih e.on (c.edge i _ (opAt_eq hi') e he hbnd).1 (by have := (c.edge i _ (opAt_eq hi') e he hbnd).1; omega)
      rw [hr] at hmem
      cases hmem
theorem ready_nil {listed : Array Bool} (hsz : listed.size = l.length) (hall : ∀ j, j < l.length → listed.getD j false = true) : Region.ready .any l.toArray listed = [] := by
  rw [List.eq_nil_iff_forall_not_mem]
  intro i hi'
  obtain ⟨h0, o, ho, _⟩ := mem_ready.1 hi'
  have hil : i < l.length := by have := (Array.getElem?_eq_some_iff.1 ho).1; simpa using this
  have h1 := hall i hil
  have hlt : i < listed.size := by omega
  simp [hlt] at h0 h1
  rw [h0] at h1; cases h1
theorem deps_listed (c : Chk l.toArray D) {listed : Array Bool} (hcl : ∀ k, k < l.length → listed.getD k false = true → ∀ j, j < l.length → D k j = true → listed.getD j false = true) {i : Nat} (hil : i < l.length)
    (hdep : ∀ e ∈ (opAt l i).after, Region.binds .any e = true → listed.getD e.on false = true) : ∀ j, j < l.length → D i j = true → listed.getD j false = true := fun j hj hd => by
  obtain ⟨e, he, hbnd, h1⟩ := c.gen i _ (opAt_eq hil) j (by simpa using hj) hd
  have h2 := hdep e he hbnd
  rcases h1 with h1 | h1
  · rw [← h1]; exact h2
  · have h3 := (c.edge i _ (opAt_eq hil) e he hbnd).1
    exact hcl e.on (by omega) h2 j hj h1
theorem closed_set {listed : Array Bool} {i : Nat} (hlt : i < listed.size) (hcl : ∀ k, k < l.length → listed.getD k false = true → ∀ j, j < l.length → D k j = true → listed.getD j false = true)
    (hdeps : ∀ j, j < l.length → D i j = true → listed.getD j false = true) : ∀ k, k < l.length → (listed.setIfInBounds i true).getD k false = true → ∀ j, j < l.length → D k j = true → (listed.setIfInBounds i true).getD j false = true := fun k hk h1 j hj hd => by
  rw [getD_set hlt] at h1 ⊢
  split
  · rfl
  · by_cases hki : k = i
    · subst hki; exact hdeps j hj hd
    · rw [if_neg hki] at h1; exact hcl k hk h1 j hj hd
theorem any_of_tail (c : Chk l.toArray D) {C' : World → Prop} (hchain : ∀ j, n ≤ j → j + 1 < l.length → D (j + 1) j = true) :
    ∀ (fuel : Nat) (listed : Array Bool) (w : World) (vals v1 : Nat → Value) (j : Nat), listed.size = l.length → unl listed l.length ≤ fuel → n ≤ j → j ≤ l.length →
      (∀ k, k < l.length → listed.getD k false = true → ∀ i, i < l.length → D k i = true → listed.getD i false = true) →
      (∀ k, n ≤ k → k < l.length → (listed.getD k false = true ↔ k < j)) →
      (∀ k, k < n → listed.getD k false = false → ∀ w', C' w' → DetStep P l.toArray (opAt l k) (Afr l a0 v1 k) w' (v1 k)) →
      (∀ k, k < l.length → listed.getD k false = true → v1 k = vals k) → C' w → tailW P l.toArray C' Q (l.drop j) (Afr l a0 v1 j) w →
      wpAny P .any l.toArray Q fuel listed (fr l.toArray vals (fun j => listed.getD j false) a0 l.length) w := by
  intro fuel
  have hend : ∀ (listed : Array Bool) (w : World) (vals v1 : Nat → Value) (j : Nat), listed.size = l.length → n ≤ j → j ≤ l.length → (∀ k, n ≤ k → k < l.length → (listed.getD k false = true ↔ k < j)) →
      (∀ k, k < l.length → listed.getD k false = true → v1 k = vals k) → tailW P l.toArray C' Q (l.drop j) (Afr l a0 v1 j) w → Region.ready .any l.toArray listed = [] → Q .normal (fr l.toArray vals (fun j => listed.getD j false) a0 l.length) w := by
    intro listed w vals v1 j hsz hnj hjl hj hv ht hr
    have hall := all_listed c hsz hr
    have hjn : j = l.length := by
      rcases Nat.lt_or_ge j l.length with h | h
      · exact absurd ((hj j hnj h).1 (hall j h)) (by omega)
      · omega
    subst hjn
    rw [List.drop_length] at ht
    have e : fr l.toArray vals (fun j => listed.getD j false) a0 l.length = Afr l a0 v1 l.length := fr_congr _ (fun k hk => ⟨hall k hk, fun _ => (hv k hk (hall k hk)).symm⟩)
    rw [e]
    exact ht
  induction fuel with
  | zero =>
    intro listed w vals v1 j hsz hfuel hnj hjl hcl hj hlate hv hw ht
    have hr := ready_nil (l := l) hsz (unl_zero (listed := listed) l.length (by omega))
    exact ⟨hr, hend listed w vals v1 j hsz hnj hjl hj hv ht hr⟩
  | succ fuel ih =>
    intro listed w vals v1 j hsz hfuel hnj hjl hcl hj hlate hv hw ht
    refine ⟨hend listed w vals v1 j hsz hnj hjl hj hv ht, fun i hir => ?_⟩
    obtain ⟨h0, o, ho, hdep⟩ := mem_ready.1 hir
    have hil : i < l.length := by have := (Array.getElem?_eq_some_iff.1 ho).1; simpa using this
    have hlt : i < listed.size := by omega
    obtain rfl : o = opAt l i := by rw [opAt_eq hil] at ho; exact (Option.some.inj ho).symm
    have hiun : listed.getD i false = false := by simp [hlt] at h0 ⊢; exact h0
    have hdeps := deps_listed c hcl hil hdep
    have hno : ∀ k, k < l.length → listed.getD k false = true → D k i = false := fun k hk hlk => by
      cases hd : D k i with
      | false => rfl
      | true => rw [hcl k hk hlk i hil hd] at hiun; cases hiun
    have hfuel' : unl (listed.setIfInBounds i true) l.length ≤ fuel := by have := (unl_set hlt hiun l.length).2 hil; omega
    have hsel : ∀ cs b, (opAt l i).op ≠ .select cs b := fun cs b => c.sel i _ cs b (opAt_eq hil)
    have hag := agree_real (a0 := a0) (v1 := v1) (vals := vals) c hil hiun hdeps hno (fun k hk hlk => hv k (by omega) hlk)
    rcases Nat.lt_or_ge i n with hin | hin
    · -- late
      refine wpOp_of_det (opAt_eq hil) (((hlate i hin hiun) w hw).agree hsel hag) ?_
      rw [fr_step c hil hlt hiun hno]
      refine ih _ w _ v1 j (by simpa using hsz) hfuel' hnj hjl (closed_set hlt hcl hdeps) (fun k h1 h2 => ?_) (fun k h1 h2 => ?_) (fun k h1 h2 => ?_) hw ht
      · rw [getD_set hlt, if_neg (by omega)]; exact hj k h1 h2
      · rw [getD_set hlt] at h2
        split at h2
        · cases h2
        · exact hlate k h1 h2
      · rw [getD_set hlt] at h2
        by_cases hki : k = i
        · subst hki; rw [updN_same]
        · rw [if_neg hki] at h2; rw [updN_other _ _ hki]; exact hv k h1 h2
    · -- the next of the tail
      have hij : i = j := by
        have h1 : ¬ i < j := fun h => by rw [(hj i hin hil).2 h] at hiun; cases hiun
        rcases Nat.lt_or_ge j i with h2 | h2
        · exfalso
          have hji : ∀ d, j + 1 + d < l.length → D (j + 1 + d) j = true := fun d => by
            induction d with
            | zero => exact fun h => hchain j hnj h
            | succ d ihd => exact fun h => c.trans _ (j + 1 + d) _ (by simpa using h) (by simp; omega) (by simp; omega) (hchain (j + 1 + d) (by omega) (by omega)) (ihd (by omega))
          have hd := hji (i - (j + 1)) (by omega)
          rw [show j + 1 + (i - (j + 1)) = i by omega] at hd
          have := (hj j hnj (by omega)).1 (hdeps j (by omega) hd)
          omega
        · omega
      subst hij
      have hdrop : l.drop i = opAt l i :: l.drop (i + 1) := by
        rw [List.drop_eq_getElem_cons hil]
        simp [opAt, List.getD, hil]
      rw [hdrop] at ht
      obtain ⟨hwant, htame, hwp⟩ := ht
      have := wp_agree (Q := Q) hsel htame hag hwp
      unfold wpOp
      simp only [opAt_eq hil]
      rw [← hag.wanted, hwant, if_pos rfl]
      refine .inl (Oper.wp_mono (fun b' w' ⟨v, hb', hw', ht'⟩ => ?_) this)
      rw [hb', fr_step c hil hlt hiun hno]
      refine ih _ w' _ (updN v1 i v) (i + 1) (by simpa using hsz) hfuel' (by omega) (by omega) (closed_set hlt hcl hdeps) (fun k h1 h2 => ?_) (fun k h1 h2 => ?_) (fun k h1 h2 => ?_) hw' ?_
      · rw [getD_set hlt]
        by_cases hki : k = i
        · subst hki; simp
        · rw [if_neg hki, hj k h1 h2]; omega
      · rw [getD_set hlt, if_neg (by omega)] at h2
        have e : Afr l a0 (updN v1 i v) k = Afr l a0 v1 k := fr_congr k (fun m hm => ⟨rfl, fun _ => updN_other _ _ (by omega)⟩)
        rw [e, updN_other _ _ (by omega)]
        exact hlate k h1 h2
      · rw [getD_set hlt] at h2
        by_cases hki : k = i
        · subst hki; rw [updN_same, updN_same]
        · rw [if_neg hki] at h2; rw [updN_other _ _ hki, updN_other _ _ hki]; exact hv k h1 h2
      · rw [Afr_succ l a0 _ hil, updN_same]
        have e : Afr l a0 (updN v1 i v) i = Afr l a0 v1 i := fr_congr i (fun m hm => ⟨rfl, fun _ => updN_other _ _ (by omega)⟩)
        rw [e]
        exact ht'
def lateB (l : List Oper) (D : Nat → Nat → Bool) (n i : Nat) : Bool := decide (n < l.length) && !D n i
theorem any_of_head (c : Chk l.toArray D) (hn : n ≤ l.length) {C' : World → Prop} (hC : ∀ w, Below w0.heap.size w0 w → C' w) (hchain : ∀ j, n ≤ j → j + 1 < l.length → D (j + 1) j = true)
    (hlate : ∀ i, i < n → lateB l D n i = true → ism i = false)
    (hΦ : ∀ i args v lo hi w w', Φ i args v lo hi w → Below w.heap.size w w' → Φ i args v lo hi w')
    (hw : walkP P l.toArray w0 (fun i w => if lateB l D n i then C' w else Below w0.heap.size w0 w) Φ ism D (tailW P l.toArray C' Q (l.drop n)) (l.take n) 0 a0 [] []) :
    ∀ (fuel : Nat) (listed : Array Bool) (w : World) (vals : Nat → Value) (lo hi : Nat → Nat), listed.size = l.length → unl listed l.length ≤ fuel → Below w0.heap.size w0 w →
      (∀ k, k < l.length → listed.getD k false = true → ∀ i, i < l.length → D k i = true → listed.getD i false = true) →
      (∀ k, n ≤ k → k < l.length → listed.getD k false = false) →
      (∀ i, i < n → listed.getD i false = true → Good P l w0 (fun i w => if lateB l D n i then C' w else Below w0.heap.size w0 w) Φ ism a0 vals lo hi w i) →
      (∀ i j, i < n → j < n → listed.getD i false = true → listed.getD j false = true → ism i = true → ism j = true → i ≠ j → hi i ≤ lo j ∨ hi j ≤ lo i) →
      wpAny P .any l.toArray Q fuel listed (fr l.toArray vals (fun j => listed.getD j false) a0 l.length) w := by
  have hCl : ∀ i w, Below w0.heap.size w0 w → (fun i w => if lateB l D n i then C' w else Below w0.heap.size w0 w) i w := fun i w hb => by
    show (if lateB l D n i then C' w else _)
    split
    · exact hC w hb
    · exact hb
  intro fuel
  induction fuel with
  | zero =>
    intro listed w vals lo hi hsz hfuel hb hcl hnt hg hdj
    have hall := unl_zero (listed := listed) l.length (by omega)
    have hnl : n = l.length := by
      rcases Nat.lt_or_ge n l.length with h | h
      · exact absurd (hall n h) (by rw [hnt n (Nat.le_refl _) h]; exact Bool.false_ne_true)
      · omega
    obtain ⟨v1, lo1, hi1, w1, e1, b1, c1, g1, d1, walk⟩ := complete hn hCl c hΦ hw hb (fun i h1 h2 j h3 h4 => hcl i (by omega) h2 j (by omega) h4) hg hdj n (Nat.le_refl _)
    have ee : ∀ j, j < n → v1 j = vals j ∧ lo1 j = lo j ∧ hi1 j = hi j := fun j hj => e1 j (hall j (by omega))
    rw [show (l.take n).drop n = [] by simp, facts_congr n ee, ints_congr n (fun j hj => (ee j hj).2)] at walk
    have ht := walk w hb (fun p hp => by
      obtain ⟨j, h1, h2, rfl⟩ := mem_facts _ p hp
      have := hg j h1 (hall j (by omega))
      unfold Good at this
      rw [if_pos h2] at this
      exact this.1) (fun q hq => by
      obtain ⟨j, h1, h2, rfl⟩ := mem_ints _ q hq
      have := hg j h1 (hall j (by omega))
      unfold Good at this
      rw [if_pos h2] at this
      exact this.2.2.2) (ints_pair _ (fun i j h1 h2 => hdj i j h1 h2 (hall i (by omega)) (hall j (by omega))))
    exact any_of_tail c hchain 0 listed w vals v1 n hsz hfuel (Nat.le_refl _) hn hcl (fun k h1 h2 => by omega) (fun k h1 h2 => by rw [hall k (by omega)] at h2; cases h2) (fun k h1 _ => (ee k (by omega)).1) (hC w hb) ht
  | succ fuel ih =>
    intro listed w vals lo hi hsz hfuel hb hcl hnt hg hdj
    by_cases hfull : ∀ k, k < n → lateB l D n k = false → listed.getD k false = true
    · obtain ⟨v1, lo1, hi1, w1, e1, b1, c1, g1, d1, walk⟩ := complete hn hCl c hΦ hw hb (fun i h1 h2 j h3 h4 => hcl i (by omega) h2 j (by omega) h4) hg hdj n (Nat.le_refl _)
      have hmem : ∀ j, j < n → ism j = true → listed.getD j false = true := fun j hj hm => hfull j hj (by
        cases h : lateB l D n j with
        | false => rfl
        | true => rw [hlate j hj h] at hm; cases hm)
      have good : ∀ j, j < n → ism j = true → Φ j (argsOf (opAt l j) (Afr l a0 v1 j)) (v1 j) (lo1 j) (hi1 j) w ∧ hi1 j ≤ w.heap.size := fun j hj hm => by
        have hlj := hmem j hj hm
        have := Good.congr (vals' := v1) (lo' := lo1) (hi1' := hi1) c (by omega) (fun k hkl hk => (e1 k (hcl j (by omega) hlj k hkl hk)).1.symm) (e1 j hlj).1.symm (e1 j hlj).2.1.symm (e1 j hlj).2.2.symm (hg j hj hlj)
        unfold Good at this
        rw [if_pos hm] at this
        exact ⟨this.1, this.2.2.2⟩
      rw [show (l.take n).drop n = [] by simp] at walk
      have ht := walk w hb (fun p hp => by
        obtain ⟨j, h1, h2, rfl⟩ := mem_facts _ p hp
        exact (good j h1 h2).1) (fun q hq => by
        obtain ⟨j, h1, h2, rfl⟩ := mem_ints _ q hq
        exact (good j h1 h2).2) (ints_pair _ (fun i j h1 h2 m1 m2 hne => d1 i j h1 h2 (.inl (hmem i h1 m1)) (.inl (hmem j h2 m2)) m1 m2 hne))
      refine any_of_tail c hchain (fuel + 1) listed w vals v1 n hsz hfuel (Nat.le_refl _) hn hcl (fun k h1 h2 => ?_) (fun k h1 h2 => ?_) (fun k h1 h2 => (e1 k h2).1) (hC w hb) ht
      · rw [hnt k h1 h2]; simp; omega
      · have hl : lateB l D n k = true := by
          cases h : lateB l D n k with
          | true => rfl
          | false => rw [hfull k h1 h] at h2; cases h2
        have := g1 k h1 (.inr h1)
        unfold Good at this
        rw [if_neg (by rw [hlate k h1 hl]; exact Bool.false_ne_true)] at this
        intro w' hw'
        exact this w' (by show (if lateB l D n k then _ else _); rw [if_pos hl]; exact hw')
    · refine ⟨fun hr => absurd (fun k hk _ => all_listed c hsz hr k (by omega)) hfull, fun i hir => ?_⟩
      obtain ⟨h0, o, ho, hdep⟩ := mem_ready.1 hir
      have hil : i < l.length := by have := (Array.getElem?_eq_some_iff.1 ho).1; simpa using this
      have hlt : i < listed.size := by omega
      obtain rfl : o = opAt l i := by rw [opAt_eq hil] at ho; exact (Option.some.inj ho).symm
      have hiun : listed.getD i false = false := by simp [hlt] at h0 ⊢; exact h0
      have hdeps := deps_listed c hcl hil hdep
      have hin : i < n := by
        rcases Nat.lt_or_ge i n with h | h
        · exact h
        · exfalso
          have hni : i = n := by
            rcases Nat.lt_or_ge n i with h2 | h2
            · exfalso
              have hji : ∀ d, n + 1 + d < l.length → D (n + 1 + d) n = true := fun d => by
                induction d with
                | zero => exact fun h => hchain n (Nat.le_refl _) h
                | succ d ihd => exact fun h => c.trans _ (n + 1 + d) _ (by simpa using h) (by simp; omega) (by simp; omega) (hchain (n + 1 + d) (by omega) (by omega)) (ihd (by omega))
              have hd := hji (i - (n + 1)) (by omega)
              rw [show n + 1 + (i - (n + 1)) = i by omega] at hd
              have := hdeps n (by omega) hd
              rw [hnt n (Nat.le_refl _) (by omega)] at this
              cases this
            · omega
          subst hni
          refine hfull fun k hk hl => hdeps k (by omega) ?_
          unfold lateB at hl
          simp only [Bool.and_eq_false_iff, decide_eq_false_iff_not, Bool.not_eq_false'] at hl
          exact hl.resolve_left (by omega)
      have hno : ∀ k, k < l.length → listed.getD k false = true → D k i = false := fun k hk hlk => by
        cases hd : D k i with
        | false => rfl
        | true => rw [hcl k hk hlk i hil hd] at hiun; cases hiun
      obtain ⟨v1, lo1, hi1, w1, e1, b1, c1, g1, d1, walk⟩ := complete hn hCl c hΦ hw hb (fun i h1 h2 j h3 h4 => hcl i (by omega) h2 j (by omega) h4) hg hdj i (by omega)
      have hdrop : (l.take n).drop i = opAt l i :: (l.take n).drop (i + 1) := by
        rw [List.drop_eq_getElem_cons (by simp; omega)]
        simp [opAt, List.getD, hil]
      rw [hdrop] at walk
      unfold walkP at walk
      have hag := agree_real (a0 := a0) (v1 := v1) (vals := vals) c hil hiun hdeps hno (fun k hk hlk => (e1 k hlk).1)
      have hsel : ∀ cs b, (opAt l i).op ≠ .select cs b := fun cs b => c.sel i _ cs b (opAt_eq hil)
      have hcl' := closed_set hlt hcl hdeps
      have hfuel' : unl (listed.setIfInBounds i true) l.length ≤ fuel := by have := (unl_set hlt hiun l.length).2 hil; omega
      have hnt' : ∀ k, n ≤ k → k < l.length → (listed.setIfInBounds i true).getD k false = false := fun k h1 h2 => by
        rw [getD_set hlt, if_neg (by omega)]; exact hnt k h1 h2
      by_cases hm : ism i = true
      · rw [if_pos hm] at walk
        obtain ⟨hstep, _⟩ := walk
        have hst := hstep w hb (fun p hp hd => by
          obtain ⟨j, h1, h2, rfl⟩ := mem_facts i p hp
          have hlj := hdeps j (by omega) hd
          have := Good.congr (vals' := v1) (lo' := lo1) (hi1' := hi1) c (by omega) (fun k hkl hk => (e1 k (hcl j (by omega) hlj k hkl hk)).1.symm) (e1 j hlj).1.symm (e1 j hlj).2.1.symm (e1 j hlj).2.2.symm (hg j (by omega) hlj)
          unfold Good at this
          rw [if_pos h2] at this
          exact this.1)
        refine wpOp_of_mem (opAt_eq hil) (hst.agree hsel hag) fun v w' ⟨hb', hφ⟩ => ?_
        rw [fr_step c hil hlt hiun hno]
        refine ih _ w' (updN vals i v) (updN lo i w.heap.size) (updN hi i w'.heap.size) (by simpa using hsz) hfuel' (hb.trans (hb'.mono hb.size)) hcl' hnt' (fun j hj hlj => ?_) (fun j k hj hk hlj hlk mj mk hne => ?_)
        · rw [getD_set hlt] at hlj
          by_cases hji : j = i
          · subst hji
            unfold Good
            rw [if_pos hm, updN_same, updN_same, updN_same]
            refine ⟨?_, hb.size, hb'.size, Nat.le_refl _⟩
            have : Agree l.toArray (opAt l j) (Afr l a0 v1 j) (Afr l a0 (updN vals j v) j) := agree_vals c hil (fun k hk hd => by
              rw [updN_other _ _ (by have := c.lt j k (by simpa using hil) (by simpa using hk) hd; omega)]
              exact (e1 k (hdeps k hk hd)).1)
            rw [← this.args]
            exact hφ
          · rw [if_neg hji] at hlj
            exact Good.congr c (by omega) (fun k hk hd => (updN_other _ _ (by rintro rfl; rw [hno j (by omega) hlj] at hd; cases hd)).symm) (updN_other _ _ hji).symm (updN_other _ _ hji).symm (updN_other _ _ hji).symm ((hg j hj hlj).later hΦ hb')
        · rw [getD_set hlt] at hlj hlk
          have hle : ∀ j, j < n → listed.getD j false = true → ism j = true → hi j ≤ w.heap.size := fun j h1 h2 h3 => by
            have := hg j h1 h2
            unfold Good at this
            rw [if_pos h3] at this
            exact this.2.2.2
          by_cases hji : j = i
          · subst hji
            have hkj : k ≠ j := fun e => hne e.symm
            rw [if_neg hkj] at hlk
            rw [updN_same, updN_same, updN_other _ _ hkj, updN_other _ _ hkj]
            exact .inr (hle k hk hlk mk)
          · rw [if_neg hji] at hlj
            by_cases hki : k = i
            · subst hki
              rw [updN_same, updN_same, updN_other _ _ hji, updN_other _ _ hji]
              exact .inl (hle j hj hlj mj)
            · rw [if_neg hki] at hlk
              rw [updN_other _ _ hji, updN_other _ _ hji, updN_other _ _ hki, updN_other _ _ hki]
              exact hdj j k hj hk hlj hlk mj mk hne
      · rw [if_neg hm] at walk
        obtain ⟨v, hdet, _⟩ := walk
        refine wpOp_of_det (opAt_eq hil) ((hdet w (hCl i w hb)).agree hsel hag) ?_
        rw [fr_step c hil hlt hiun hno]
        refine ih _ w (updN vals i v) lo hi (by simpa using hsz) hfuel' hb hcl' hnt' (fun j hj hlj => ?_) (fun j k hj hk hlj hlk mj mk hne => ?_)
        · rw [getD_set hlt] at hlj
          by_cases hji : j = i
          · subst hji
            unfold Good
            rw [if_neg hm, updN_same]
            have : Agree l.toArray (opAt l j) (Afr l a0 v1 j) (Afr l a0 (updN vals j v) j) := agree_vals c hil (fun k hk hd => by
              rw [updN_other _ _ (by have := c.lt j k (by simpa using hil) (by simpa using hk) hd; omega)]
              exact (e1 k (hdeps k hk hd)).1)
            exact fun w' hw' => (hdet w' hw').agree hsel this
          · rw [if_neg hji] at hlj
            exact Good.congr c (by omega) (fun k hk hd => (updN_other _ _ (by rintro rfl; rw [hno j (by omega) hlj] at hd; cases hd)).symm) (updN_other _ _ hji).symm rfl rfl (hg j hj hlj)
        · rw [getD_set hlt] at hlj hlk
          have hji : j ≠ i := by rintro rfl; exact hm mj
          have hki : k ≠ i := by rintro rfl; exact hm mk
          rw [if_neg hji] at hlj
          rw [if_neg hki] at hlk
          exact hdj j k hj hk hlj hlk mj mk hne
def chkTail (l : List Oper) (m : List Nat) (n : Nat) (ism : Nat → Bool) : Bool :=
  decide (n ≤ l.length) && ((List.range l.length).all fun j => decide (j < n) || decide (l.length ≤ j + 1) || dm m (j + 1) j) && ((List.range n).all fun i => !lateB l (dm m) n i || !ism i)
theorem any_tail {a : Act} {w : World} (m : List Nat) (n : Nat) (C' : World → Prop) (Φ : Nat → List Value → Value → Nat → Nat → World → Prop) (ism : Nat → Bool) (hB : chk l.toArray m = true) (hT : chkTail l m n ism = true)
    (hC : ∀ w', Below w.heap.size w w' → C' w')
    (hΦ : ∀ i args v lo hi w w', Φ i args v lo hi w → Below w.heap.size w w' → Φ i args v lo hi w')
    (h : walkP P l.toArray w (fun i w' => if lateB l (dm m) n i then C' w' else Below w.heap.size w w') Φ ism (dm m) (tailW P l.toArray C' Q (l.drop n)) (l.take n) 0 a [] []) : wpAny P .any l.toArray Q l.toArray.size (Array.replicate l.toArray.size false) a { w with drawn := w.drawn + 1 } := by
  unfold chkTail at hT
  simp only [Bool.and_eq_true, decide_eq_true_eq, List.all_eq_true, List.mem_range, Bool.or_eq_true, Bool.not_eq_true'] at hT
  obtain ⟨⟨hn, h1⟩, h2⟩ := hT
  have hun : ∀ k, unl (Array.replicate l.toArray.size false) k ≤ k := fun k => by
    induction k with
    | zero => exact Nat.le_refl _
    | succ k ih => unfold unl; split <;> omega
  have hf : ∀ j, (Array.replicate l.toArray.size false).getD j false = false := fun j => by
    simp only [Array.getD_eq_getD_getElem?, Array.getElem?_replicate]
    split <;> simp
  have := any_of_head (Q := Q) (a0 := a) (w0 := w) (ism := ism) (chk_spec hB) hn hC (fun j hj hj2 => by
    rcases h1 j (by omega) with (h3 | h3) | h3
    · omega
    · omega
    · exact h3) (fun i hi hl => by
    rcases h2 i hi with h3 | h3
    · rw [hl] at h3; cases h3
    · exact h3) hΦ h l.toArray.size (Array.replicate l.toArray.size false) { w with drawn := w.drawn + 1 } (fun _ => undef) (fun _ => 0) (fun _ => 0) (by simp) (by simpa using hun l.length) (Below.refl _ w).drew
    (fun k _ h => by rw [hf] at h; cases h) (fun k _ _ => hf k) (fun i _ h => by rw [hf] at h; cases h) (fun i j _ _ h => by rw [hf] at h; cases h)
  have e : ∀ k, fr l.toArray (fun _ => undef) (fun j => (Array.replicate l.toArray.size false).getD j false) a k = a := fun k => by
    induction k with
    | zero => rfl
    | succ k ih => rw [fr, if_neg (by rw [hf]; exact Bool.false_ne_true), ih]
  rw [e] at this
  exact this
theorem wp_region_tail {id : Nat} {a : Act} {w : World} (m : List Nat) (n : Nat) (C' : World → Prop) (Φ : Nat → List Value → Value → Nat → Nat → World → Prop) (ism : Nat → Bool) (hm : P.follows .mixedOrders = true) (hB : chk l.toArray m = true) (hT : chkTail l m n ism = true)
    (hC : ∀ w', Below w.heap.size w w' → C' w')
    (hΦ : ∀ i args v lo hi w w', Φ i args v lo hi w → Below w.heap.size w w' → Φ i args v lo hi w')
    (h : walkP P l.toArray w (fun i w' => if lateB l (dm m) n i then C' w' else Below w.heap.size w w') Φ ism (dm m) (tailW P l.toArray C' Q (l.drop n)) (l.take n) 0 a [] []) : (Code.region id l.toArray true).wp P Q a w :=
  wp_region_any hm (any_tail m n C' Φ ism hB hT hC hΦ h)
end
def calm (o : Oper) : Bool := tame o
theorem calm_enter {P : Program} {o : Oper} (h : calm o = true) (ρ : Operand → Value) (w : World) (f : FuncId) (args : Array Value) (w' : World) : (execOp ρ o).run P w ≠ .ok (.enter f args) w' := by
  intro e
  rcases tame_run (P := P) h ρ w with ⟨v, w1, h1⟩ | ⟨w1, h1⟩ | ⟨x, w1, h1⟩ <;> rw [h1] at e <;> cases e
section
variable {P : Program} {ops : Array Oper} {w0 : World} {Cl : Nat → World → Prop} {Φ : Nat → List Value → Value → Nat → Nat → World → Prop} {ism : Nat → Bool} {D : Nat → Nat → Bool} {E : Act → World → Prop} {Q : Exit → Act → World → Prop} {a : Act} {o : Oper} {rest : List Oper} {i : Nat} {F : List (Nat × (World → Prop))} {I : List (Nat × Nat)}
def masks (l : List Oper) : List Nat := (Region.before l.toArray).toList
theorem walkP_cl {Cl' : Nat → World → Prop} (h : ∀ i w, Cl i w → Cl' i w) : ∀ (l : List Oper) (i : Nat) (a : Act) F I, walkP P ops w0 Cl' Φ ism D E l i a F I → walkP P ops w0 Cl Φ ism D E l i a F I := by
  intro l
  induction l with
  | nil => intro i a F I h; exact h
  | cons o rest ih =>
    intro i a F I hw
    unfold walkP at hw ⊢
    split
    · rename_i hi
      rw [if_pos hi] at hw
      exact ⟨hw.1, fun v lo hi h1 h2 h3 => ih _ _ _ _ (hw.2 v lo hi h1 h2 h3)⟩
    · rename_i hi
      rw [if_neg hi] at hw
      obtain ⟨v, h1, h2⟩ := hw
      exact ⟨v, fun w' hw' => h1 w' (h _ _ hw'), ih _ _ _ _ h2⟩
theorem wp_region_perm' {id : Nat} {w : World} {l : List Oper} (Φ : Nat → List Value → Value → Nat → Nat → World → Prop) (ism : Nat → Bool) (hm : P.follows .mixedOrders = true) (hB : chk l.toArray (masks l) = true) (hT : chkTail l (masks l) l.length ism = true)
    (hΦ : ∀ i args v lo hi w w', Φ i args v lo hi w → Below w.heap.size w w' → Φ i args v lo hi w')
    (h : walkP P l.toArray w (fun _ w' => ∃ e : Ext w, w' = e.world) Φ ism (dm (masks l)) (fun a w' => Q .normal a w') l 0 a [] []) : (Code.region id l.toArray true).wp P Q a w := by
  refine wp_region_tail (masks l) l.length (fun w' => Below w.heap.size w w') Φ ism hm hB hT (fun _ h => h) hΦ ?_
  rw [List.drop_length, List.take_length]
  refine walkP_cl (Cl' := fun _ w' => ∃ e : Ext w, w' = e.world) (fun i w' hw' => ?_) l 0 a [] [] h
  have hw2 : Below w.heap.size w w' := by simpa using hw'
  exact ⟨⟨w', hw2⟩, rfl⟩
theorem wp_region_tail' {id : Nat} {w : World} {l : List Oper} (n : Nat) (C' : World → Prop) (Φ : Nat → List Value → Value → Nat → Nat → World → Prop) (ism : Nat → Bool) (hm : P.follows .mixedOrders = true) (hB : chk l.toArray (masks l) = true) (hT : chkTail l (masks l) n ism = true)
    (hC : ∀ w', Below w.heap.size w w' → C' w')
    (hΦ : ∀ i args v lo hi w w', Φ i args v lo hi w → Below w.heap.size w w' → Φ i args v lo hi w')
    (h : walkP P l.toArray w (fun i w' => if lateB l (dm (masks l)) n i then C' w' else ∃ e : Ext w, w' = e.world) Φ ism (dm (masks l)) (tailW P l.toArray C' Q (l.drop n)) (l.take n) 0 a [] []) : (Code.region id l.toArray true).wp P Q a w := by
  refine wp_region_tail (masks l) n C' Φ ism hm hB hT hC hΦ ?_
  refine walkP_cl (fun i w' hw' => ?_) _ 0 a [] [] h
  split at hw'
  · rename_i hl; rw [if_pos hl]; exact hw'
  · rename_i hl; rw [if_neg hl]; exact ⟨⟨w', hw'⟩, rfl⟩
theorem DetStep.of_quiet {w : World} {v : Value} {C : World → Prop} (hc : calm o = true) (hw : Region.wanted o (yielded ops a.tmps) = true) (h : o.quietAt P a C w v) : DetStep P ops o a w v := by
  unfold DetStep
  rw [if_pos hw]
  unfold Oper.quietAt at h
  have hne := calm_enter (P := P) hc a.eval w
  generalize (execOp a.eval o).run P w = r at *
  cases r with
  | ok n w' =>
    cases n <;> simp only [Oper.quietUpon] at h <;> simp only [detUpon]
    case value u => exact h
    case skip => exact h
    case enter f args => exact absurd rfl (hne f args w')
  | halt x w' => simp only [Oper.quietUpon] at h
theorem walkP_calm (hi : ism i = false) (hc : calm o = true) (hw : Region.wanted o (yielded ops a.tmps) = true)
    (h : ∀ K : Act → Prop, (∀ a, walkP P ops w0 Cl Φ ism D E rest (i + 1) a F I → K a) → o.quiet P a (Cl i) K) : walkP P ops w0 Cl Φ ism D E (o :: rest) i a F I := by
  unfold walkP
  rw [if_neg (by rw [hi]; exact Bool.false_ne_true)]
  obtain ⟨v, h1, h2⟩ := h _ (fun _ h => h)
  exact ⟨v, fun w hb => DetStep.of_quiet hc hw (h1 w hb), h2⟩
theorem walkP_skip (hi : ism i = false) (hw : Region.wanted o (yielded ops a.tmps) = false) (h : walkP P ops w0 Cl Φ ism D E rest (i + 1) (a.put o.dst undef) F I) : walkP P ops w0 Cl Φ ism D E (o :: rest) i a F I := by
  unfold walkP
  rw [if_neg (by rw [hi]; exact Bool.false_ne_true)]
  refine ⟨undef, fun w _ => ?_, h⟩
  unfold DetStep
  rw [if_neg (by rw [hw]; exact Bool.false_ne_true)]
theorem walkP_mem (hi : ism i = true) (hw : Region.wanted o (yielded ops a.tmps) = true)
    (h : ∀ w, Below w0.heap.size w0 w → (∀ p ∈ F, D i p.1 = true → p.2 w) → memUpon P (fun v w' => Below w.heap.size w w' ∧ Φ i (argsOf o a) v w.heap.size w'.heap.size w') ((execOp a.eval o).run P w))
    (k : ∀ v lo hi, w0.heap.size ≤ lo → lo ≤ hi → (∃ w, Φ i (argsOf o a) v lo hi w) → walkP P ops w0 Cl Φ ism D E rest (i + 1) (a.put o.dst v) ((i, Φ i (argsOf o a) v lo hi) :: F) ((lo, hi) :: I)) : walkP P ops w0 Cl Φ ism D E (o :: rest) i a F I := by
  unfold walkP
  rw [if_pos hi]
  exact ⟨fun w hb hF => ⟨hw, h w hb hF⟩, k⟩
end
end Go.Proofs.YteblddnoegbalaaGreat
