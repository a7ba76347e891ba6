/- My texts Grw0, Pb4, merged. -/
import Derived.Test.YthclpkhaenaknaaGreatDoorM10
import Derived.Test.YthclpkhaenaknaaGreatDoorM15
import Derived.Test.YthclpkhaenaknaaGreatDoorM05

/- Plain laws of loop clauses: more literals exclude more; the reasons exclude; what Make returns is a loop clause. -/
namespace Go.Proofs.YthclpkhaenaknaaGreatDoor
open Go.RowKit

theorem anyR_is {n : Nat} {f : Nat → Bool} (h : anyR n f = true) : ∃ k, k < n ∧ f k = true := by
  apply Classical.byContradiction
  intro hn
  have : anyR n f = false := anyR_false (fun j hj => by
    cases e : f j with
    | false => rfl
    | true => exact (hn ⟨j, hj, e⟩).elim)
  rw [h] at this
  cases this

/-- The literals for which f holds exclude the support. -/
def excF (u : SU) (f : Int → Bool) : Bool := impB u || f u.b || (!u.r.sum && anyR u.r.body.length (fun j => f (ix u.r.body j))) || anyR (oth u).length (fun j => f (-(ix (oth u) j))) || (u.r.sum && decide (wgt u (fun l => !f l) u.r.body.length < u.r.bound))

theorem exc_F (u : SU) (a : List Int) : exc u a = excF u (offB a) := rfl
theorem excV_F (u : SU) (L : List Int) : excV u L = excF u (inB L) := rfl

theorem wgt_mono {u : SU} {f g : Int → Bool} (h : ∀ x ∈ u.r.body, g x = true → f x = true) (hw : ∀ j, j < u.r.body.length → 0 ≤ ix u.r.w j) : ∀ k, k ≤ u.r.body.length → wgt u g k ≤ wgt u f k
  | 0, _ => Int.le_refl _
  | k + 1, hk => by
    have ih := wgt_mono h hw k (by omega)
    have h1 := h (ix u.r.body k) (ix_mem (by omega))
    have h2 := hw k (by omega)
    simp only [wgt]
    cases hi : intB u.S (ix u.r.body k) with
    | true => simp; omega
    | false =>
      cases hg : g (ix u.r.body k) with
      | true => rw [h1 hg]; simp; omega
      | false => cases hf : f (ix u.r.body k) <;> simp <;> omega

theorem wgt_congr {u : SU} {f g : Int → Bool} (h : ∀ x ∈ u.r.body, intB u.S x = false → g x = f x) : ∀ k, k ≤ u.r.body.length → wgt u g k = wgt u f k
  | 0, _ => rfl
  | k + 1, hk => by
    have ih := wgt_congr h k (by omega)
    have h1 := h (ix u.r.body k) (ix_mem (by omega))
    simp only [wgt]
    rw [ih]
    cases hi : intB u.S (ix u.r.body k) with
    | true => simp
    | false => rw [h1 hi]

theorem SUok.wpos {u : SU} (hok : SUok u) (hs : u.r.sum = true) : ∀ j, j < u.r.body.length → 0 ≤ ix u.r.w j := fun j hj => by
  obtain ⟨h1, h2, -⟩ := hok.wts hs
  have := h2 j (by omega)
  omega

theorem excF_mono {u : SU} {f g : Int → Bool} (hok : SUok u) (hb : f u.b = true → g u.b = true) (hbd : ∀ x ∈ u.r.body, f x = true → g x = true) (ho : ∀ x ∈ oth u, f (-x) = true → g (-x) = true) (h : excF u f = true) : excF u g = true := by
  unfold excF at h ⊢
  simp only [Bool.or_eq_true, Bool.and_eq_true, Bool.not_eq_true', decide_eq_true_eq] at h ⊢
  rcases h with (((h | h) | ⟨h1, h2⟩) | h) | ⟨h1, h2⟩
  · exact .inl (.inl (.inl (.inl h)))
  · exact .inl (.inl (.inl (.inr (hb h))))
  · obtain ⟨j, hj, e⟩ := anyR_is h2
    exact .inl (.inl (.inr ⟨h1, anyR_true j hj (hbd _ (ix_mem hj) e)⟩))
  · obtain ⟨j, hj, e⟩ := anyR_is h
    exact .inl (.inr (anyR_true j hj (ho _ (ix_mem hj) e)))
  · refine .inr ⟨h1, Int.lt_of_le_of_lt (wgt_mono (fun x hx e => ?_) (hok.wpos h1) _ (Nat.le_refl _)) h2⟩
    cases hf : f x with
    | false => rfl
    | true => simp [hbd x hx hf] at e

/-! ### The reasons -/
theorem reas2_exc {u : SU} {a : List Int} (hi : impB u = false) (hb : offB a u.b = false) (h2 : ex2 u a = false) (h : exc u a = true) : excF u (inB (reas2 u a)) = true := by
  unfold reas2
  cases ho : (oth u).find? (fun h => offB a (-h)) with
  | some x =>
    obtain ⟨j, hj, rfl⟩ := mem_ix.1 (List.mem_of_find?_eq_some ho)
    have : anyR (oth u).length (fun i => inB [-(ix (oth u) j)] (-(ix (oth u) i))) = true := anyR_true j hj (by simp [inB])
    unfold excF
    simp only [this, Bool.or_true, Bool.true_or]
  | none =>
    have h3 : ex3 u a = false := anyR_false (fun j hj => by have := List.find?_eq_none.1 ho _ (ix_mem hj); simpa using this)
    have h4 : ex4 u a = true := by unfold exc at h; rw [hi, hb, h2, h3] at h; simpa using h
    unfold ex4 at h4
    rw [Bool.and_eq_true, decide_eq_true_eq] at h4
    have hw := wgt_congr (u := u) (f := fun l => !offB a l) (g := fun l => !inB (u.r.body.filter fun l => !(intB u.S l || !offB a l)) l) (fun x hx hix => by
      cases e : offB a x <;> simp [inB, List.mem_filter, hx, hix, e]) _ (Nat.le_refl _)
    unfold excF
    simp only
    rw [hw, h4.1, decide_eq_true h4.2]
    simp

theorem reas_exc {u : SU} {a : List Int} (h : exc u a = true) : excF u (inB (reasP u a)) = true := by
  unfold reasP
  cases hi : impB u with
  | true => unfold excF; rw [hi]; simp
  | false =>
    simp only [Bool.false_eq_true, if_false]
    cases hb : offB a u.b with
    | true =>
      simp only [if_true]
      unfold excF
      simp [inB]
    | false =>
      simp only [Bool.false_eq_true, if_false]
      unfold reas1
      cases hs : u.r.sum with
      | true =>
        simp only [if_true]
        exact reas2_exc hi hb (by unfold ex2; rw [hs]; rfl) h
      | false =>
        simp only [Bool.false_eq_true, if_false]
        cases hf : u.r.body.find? (fun l => offB a l) with
        | some l =>
          obtain ⟨j, hj, rfl⟩ := mem_ix.1 (List.mem_of_find?_eq_some hf)
          have : anyR u.r.body.length (fun i => inB [ix u.r.body j] (ix u.r.body i)) = true := anyR_true j hj (by simp [inB])
          unfold excF
          simp only [this, hs]
          simp
        | none =>
          simp only
          exact reas2_exc hi hb (by unfold ex2; rw [anyR_false (fun j hj => by have := List.find?_eq_none.1 hf _ (ix_mem hj); simpa using this)]; simp) h

/-- The reasons are false literals of the support. -/
theorem reas2_of {u : SU} {a : List Int} {x : Int} (hx : x ∈ reas2 u a) : offB a x = true ∧ ((x ∈ u.r.body ∧ intB u.S x = false) ∨ ∃ h ∈ oth u, x = -h) := by
  unfold reas2 at hx
  cases ho : (oth u).find? (fun h => offB a (-h)) with
  | some y =>
    rw [ho] at hx
    obtain rfl : x = -y := by simpa using hx
    exact ⟨by have := List.find?_some ho; simpa using this, .inr ⟨y, List.mem_of_find?_eq_some ho, rfl⟩⟩
  | none =>
    rw [ho] at hx
    obtain ⟨h1, h2⟩ := List.mem_filter.1 hx
    simp only [Bool.not_or, Bool.not_not, Bool.and_eq_true, Bool.not_eq_true'] at h2
    exact ⟨h2.2, .inl ⟨h1, h2.1⟩⟩

theorem reas_of {u : SU} {a : List Int} {x : Int} (hx : x ∈ reasP u a) : offB a x = true ∧ (x = u.b ∨ (x ∈ u.r.body ∧ intB u.S x = false) ∨ ∃ h ∈ oth u, x = -h) := by
  unfold reasP at hx
  cases hi : impB u with
  | true => rw [hi] at hx; simp at hx
  | false =>
    rw [hi] at hx
    simp only [Bool.false_eq_true, if_false] at hx
    cases hb : offB a u.b with
    | true =>
      rw [hb] at hx
      obtain rfl : x = u.b := by simpa using hx
      exact ⟨hb, .inl rfl⟩
    | false =>
      rw [hb] at hx
      simp only [Bool.false_eq_true, if_false] at hx
      unfold reas1 at hx
      cases hs : u.r.sum with
      | true =>
        rw [hs] at hx
        simp only [if_true] at hx
        exact ⟨(reas2_of hx).1, .inr (reas2_of hx).2⟩
      | false =>
        rw [hs] at hx
        simp only [Bool.false_eq_true, if_false] at hx
        cases hf : u.r.body.find? (fun l => offB a l) with
        | some l =>
          rw [hf] at hx
          obtain rfl : x = l := by simpa using hx
          refine ⟨by have := List.find?_some hf; simpa using this, .inr (.inl ⟨List.mem_of_find?_eq_some hf, ?_⟩)⟩
          obtain ⟨j, hj, rfl⟩ := mem_ix.1 (List.mem_of_find?_eq_some hf)
          unfold impB at hi
          rw [hs] at hi
          simp only [Bool.false_eq_true, if_false] at hi
          cases e : intB u.S (ix u.r.body j) with
          | false => rfl
          | true => rw [anyR_true j hj e] at hi; cases hi
        | none =>
          rw [hf] at hx
          exact ⟨(reas2_of hx).1, .inr (reas2_of hx).2⟩

theorem offB_not {a : List Int} {l : Int} (hl : l ≠ 0) (h : offB a l = true) : offB a (-l) = false := by
  unfold offB at h ⊢
  rw [Int.natAbs_neg]
  simp only [Bool.and_eq_true, decide_eq_true_eq] at h
  obtain ⟨⟨h1, h2⟩, h3⟩ := h
  rw [decide_eq_true h1, decide_eq_true h2]
  by_cases e : 0 < l
  · rw [decide_eq_true e] at h3
    rw [decide_eq_false (show ¬ 0 < -l by omega)]
    simpa using h3
  · rw [decide_eq_false e] at h3
    rw [decide_eq_true (show 0 < -l by omega)]
    simpa using h3

/-! ### The supports -/
theorem sups_at (p : GP) (S : List Int) : ∀ (k : Nat) {u : SU}, u ∈ supsTo p S k → ∃ j, j < k ∧ u = supAt p S j ∧ headIn S (ixR p.rules j) = true
  | 0, u, h => by simp [supsTo] at h
  | k + 1, u, h => by
    unfold supsTo at h
    split at h
    · rename_i hh
      rcases List.mem_append.1 h with h | h
      · obtain ⟨j, hj, e⟩ := sups_at p S k h
        exact ⟨j, by omega, e⟩
      · exact ⟨k, by omega, by simpa using h, hh⟩
    · obtain ⟨j, hj, e⟩ := sups_at p S k h
      exact ⟨j, by omega, e⟩

structure SupP (p : GP) (S : List Int) (u : SU) : Prop where
  ok : SUok u
  b : p.n < u.b ∧ u.b ≤ p.n + p.rules.length
  body : ∀ x ∈ u.r.body, x ≠ 0 ∧ -p.n ≤ x ∧ x ≤ p.n
  oth : ∀ x ∈ oth u, 1 ≤ x ∧ x ≤ p.n
  set : u.S = S

theorem oth_in {u : SU} {x : Int} (h : x ∈ oth u) : x ∈ u.r.head := by
  unfold oth at h
  split at h
  · simp at h
  · unfold keepF at h
    exact List.mem_of_mem_take (List.mem_filter.1 h).1

theorem sup_p {p : GP} {S : List Int} (hv : validE p = 0) {u : SU} (h : u ∈ supsTo p S p.rules.length) : SupP p S u := by
  obtain ⟨j, hj, rfl, -⟩ := sups_at p S _ h
  have hP := validP hv
  refine ⟨supAt_ok hv S hj, ?_, fun x hx => ordered_lit (hP.body j hj) hx, fun x hx => ?_, rfl⟩
  · show p.n < bodyI p j ∧ bodyI p j ≤ _
    unfold bodyI
    rw [if_neg (by omega)]
    omega
  · have := oth_in hx
    obtain ⟨i, hi, rfl⟩ := mem_ix.1 this
    have h2 : 1 ≤ ix (ixR p.rules j).head i ∧ ix (ixR p.rules j).head i ≤ p.n := by have := inc_pos (hP.head j hj) hi; omega
    exact h2

/-! ### More variables assigned -/
theorem unf_valid {p : GP} {a S : List Int} (h : unfB p a S = true) : validE p = 0 ∧ setB' p.n S = true ∧ allExc p S a = true := by
  unfold unfB at h
  simpa [Bool.and_eq_true] using h

theorem unf_more {p : GP} {a b S : List Int} (h : unfB p a S = true) (hab : ∀ l : Int, l ≠ 0 → (l.natAbs : Int) ≤ p.n + p.rules.length → offB a l = true → offB b l = true) : unfB p b S = true := by
  obtain ⟨h1, h2, h3⟩ := unf_valid h
  have h4 : allExc p S b = true := by
    unfold allExc at h3 ⊢
    rw [List.all_eq_true] at h3 ⊢
    intro u hu
    have hs := sup_p h1 hu
    have := h3 u hu
    rw [exc_F] at this ⊢
    have hn := (validP h1).n
    refine excF_mono hs.ok (fun e => hab _ (by have := hs.b; omega) (by have := hs.b; omega) e) (fun x hx e => hab x (hs.body x hx).1 (by have := hs.body x hx; omega) e) (fun x hx e => hab (-x) (by have := hs.oth x hx; omega) (by have := hs.oth x hx; omega) e) this
  unfold unfB
  rw [h1, h2, h4]
  rfl

theorem offB_more {a b : List Int} {n : Nat} (hlen : b.length = n) (h : ∀ j, j < n → j < a.length → ix a j ≠ 0 → ix b j = ix a j) (l : Int) (hl : l ≠ 0) (hn : l.natAbs ≤ n) (ho : offB a l = true) : offB b l = true := by
  unfold offB at ho ⊢
  simp only [Bool.and_eq_true, decide_eq_true_eq] at ho
  obtain ⟨⟨h1, h2⟩, h3⟩ := ho
  rw [h (l.natAbs - 1) (by omega) (by omega) h2, decide_eq_true (show l.natAbs ≤ b.length by omega), decide_eq_true h2]
  simpa using h3

/-! ### What Make returns -/
def lits0 (p : GP) (a S : List Int) (v : Int) : List Int := [-v] ++ reasAll a (supsTo p S p.rules.length)

theorem mem_reasAll {a : List Int} {l : List SU} {x : Int} : x ∈ reasAll a l ↔ ∃ u ∈ l, x ∈ reasP u a := by
  unfold reasAll; exact List.mem_flatMap

theorem few_len {p : GP} (h : fewB p = true) : p.n ≤ 10 ∧ p.names.length ≤ 10 ∧ p.rules.length ≤ 12 ∧ ∀ k, k < p.rules.length → (ixR p.rules k).body.length ≤ 20 := by
  unfold fewB at h
  simp only [Bool.and_eq_true, decide_eq_true_eq] at h
  refine ⟨h.1.1.1, h.1.1.2, h.1.2, fun k hk => ?_⟩
  have := allR_get h.2 k hk
  unfold fewAt at this
  simp only [Bool.and_eq_true, decide_eq_true_eq] at this
  omega

theorem reasAll_len (a : List Int) : ∀ (l : List SU), (∀ u ∈ l, u.r.body.length ≤ 20) → (reasAll a l).length ≤ 21 * l.length
  | [], _ => by simp [reasAll]
  | u :: l, h => by
    have h1 := reasP_len u a
    have h2 := h u (.head _)
    have ih := reasAll_len a l (fun x hx => h x (.tail _ hx))
    unfold reasAll at *
    rw [List.flatMap_cons, List.length_append, List.length_cons]
    omega

theorem lits0_len {p : GP} {a S : List Int} {v : Int} (hf : fewB p = true) : (lits0 p a S v).length ≤ 253 := by
  obtain ⟨-, -, h3, h4⟩ := few_len hf
  have h5 := supsTo_len p S p.rules.length
  have := reasAll_len a (supsTo p S p.rules.length) (fun u hu => by obtain ⟨j, hj, rfl, -⟩ := sups_at p S _ hu; exact h4 j hj)
  unfold lits0
  rw [List.length_append, List.length_singleton]
  omega

section
variable {p : GP} {a S : List Int} {v : Int}

theorem lits0_out (hu : unfB p a S = true) (hv : v ∈ S) : 1 ≤ v ∧ v ≤ p.n ∧ ∀ x ∈ reasAll a (supsTo p S p.rules.length), offB a x = true ∧ x ≠ 0 ∧ (x.natAbs : Int) ≤ p.n + p.rules.length ∧ ∀ y ∈ S, x ≠ y := by
  obtain ⟨h1, h2, -⟩ := unf_valid hu
  obtain ⟨k, hk, rfl⟩ := mem_ix.1 hv
  have hp := setB_pos h2 hk
  have hn := (validP h1).n
  refine ⟨hp.1, hp.2, fun x hx => ?_⟩
  obtain ⟨u, hu, hr⟩ := mem_reasAll.1 hx
  have hs := sup_p h1 hu
  obtain ⟨ho, hc⟩ := reas_of hr
  have hy : ∀ y ∈ S, 1 ≤ y ∧ y ≤ p.n := fun y hy => by obtain ⟨j, hj, rfl⟩ := mem_ix.1 hy; exact setB_pos h2 hj
  rcases hc with rfl | ⟨hb, hi⟩ | ⟨h, hh, rfl⟩
  · have := hs.b
    exact ⟨ho, by omega, by omega, fun y hyS => by have := hy y hyS; omega⟩
  · have := hs.body x hb
    refine ⟨ho, this.1, by omega, fun y hyS e => ?_⟩
    subst e
    have := hy x hyS
    unfold intB at hi
    rw [hs.set, decide_eq_true hyS, decide_eq_true (show 0 < x by omega)] at hi
    cases hi
  · have := hs.oth h hh
    exact ⟨ho, by omega, by omega, fun y hyS => by have := hy y hyS; omega⟩

theorem lits0_lit (hf : fewB p = true) (hu : unfB p a S = true) (hv : v ∈ S) : ∀ x ∈ lits0 p a S v, plitB x = true := by
  obtain ⟨h1, h2, h3⟩ := lits0_out hu hv
  obtain ⟨h4, -, h5, -⟩ := few_len hf
  intro x hx
  unfold plitB
  rw [decide_eq_true_eq]
  rcases List.mem_append.1 hx with hx | hx
  · obtain rfl : x = -v := by simpa using hx
    omega
  · have := h3 x hx
    omega

theorem lits0_clash (hu : unfB p a S = true) (hv : v ∈ S) : ¬ clash (lits0 p a S v) := by
  obtain ⟨h1, h2, h3⟩ := lits0_out hu hv
  rintro ⟨y, hy, hny⟩
  rcases List.mem_append.1 hy with hy | hy
  · obtain rfl : y = -v := by simpa using hy
    rcases List.mem_append.1 hny with hny | hny
    · have : - -v = -v := by simpa using hny
      omega
    · exact (h3 _ hny).2.2.2 v hv (by omega)
  · rcases List.mem_append.1 hny with hny | hny
    · have : -y = -v := by simpa using hny
      exact (h3 _ hy).2.2.2 v hv (by omega)
    · have h4 := (h3 _ hny).1
      rw [offB_not (h3 _ hy).2.1 (h3 _ hy).1] at h4
      cases h4

theorem ins_len (v : Int) : ∀ l : List Int, (insK v l).length ≤ l.length + 1
  | [] => by simp [insK]
  | x :: l => by
    have := ins_len v l
    unfold insK
    split
    · simp
    · split
      · simp
      · simp only [List.length_cons]; omega

theorem make_good (hf : fewB p = true) (hu : unfB p a S = true) (hv : v ∈ S) : ∃ c, makeP p a S v = (c, 0) ∧ c.bound = 1 ∧ pbV c = true ∧ c.lits.length ≤ 253 ∧ ∀ x, x ∈ c.lits ↔ x ∈ lits0 p a S v := by
  have hl := lits0_lit hf hu hv
  have hlen := lits0_len (a := a) (S := S) (v := v) hf
  have hset : (setL (lits0 p a S v)).length ≤ 65536 := Nat.le_trans (setL_len _) (by omega)
  have hne : lits0 p a S v ≠ [] := by unfold lits0; simp
  obtain ⟨-, -, h3⟩ := clauseP_form hl hset
  have he := h3 (lits0_clash hu hv) hne
  have hm : makeP p a S v = clauseP (lits0 p a S v) := by
    unfold makeP
    rw [hu, decide_eq_true hv]
    rfl
  have hmem := clauseP_mem hl hset (by rw [he])
  rw [he] at hm hmem
  refine ⟨_, hm, rfl, normP_valid (show normP (setL (lits0 p a S v)) (ones (setL (lits0 p a S v)).length) 1 = _ from he), ?_, hmem⟩
  unfold varsorted
  rw [List.length_map]
  have := keys_len (setL (lits0 p a S v))
  have := setL_len (lits0 p a S v)
  omega

/-- A clause with all the literals of Make's is a loop clause. -/
theorem valid_from {d : PBC} (hu : unfB p a S = true) (hv : v ∈ S) (hpv : pbV d = true) (hb : d.bound = 1) (hd : ∀ x ∈ lits0 p a S v, x ∈ d.lits) : validC p S d = true := by
  obtain ⟨h1, h2, h3⟩ := unf_valid hu
  obtain ⟨k, hk, rfl⟩ := mem_ix.1 hv
  have h4 : anyR S.length (fun j => inB d.lits (-(ix S j))) = true := anyR_true k hk (by unfold inB; exact decide_eq_true (hd _ (by unfold lits0; simp)))
  have h5 : allExcV p S d.lits = true := by
    unfold allExcV
    unfold allExc at h3
    rw [List.all_eq_true] at h3 ⊢
    intro u hu
    have hr := reas_exc (h3 u hu)
    rw [excV_F]
    have hin : ∀ x, inB (reasP u a) x = true → inB d.lits x = true := fun x hx => by
      unfold inB at hx ⊢
      rw [decide_eq_true_eq] at hx ⊢
      exact hd x (List.mem_append_right _ (mem_reasAll.2 ⟨u, hu, hx⟩))
    exact excF_mono (sup_p h1 hu).ok (hin _) (fun x _ => hin x) (fun x _ => hin (-x)) hr
  unfold validC
  rw [h1, h2, hpv, hb, h4, h5]
  rfl

theorem make_valid {c : PBC} (hf : fewB p = true) (hu : unfB p a S = true) (hv : v ∈ S) (hc : (makeP p a S v).1 = c) : validC p S c = true := by
  obtain ⟨c', h1, h2, h3, -, h5⟩ := make_good hf hu hv
  rw [h1] at hc
  subst hc
  exact valid_from hu hv h3 h2 (fun x hx => (h5 x).2 hx)

/-- Adding a literal keeps a loop clause valid. -/
theorem grow_valid {x : Int} {c : PBC} (hf : fewB p = true) (hu : unfB p a S = true) (hv : v ∈ S) (hx : 1 ≤ x ∧ x ≤ 22) (hc : (makeP p a S v).1 = c) :
    (clauseP ([x] ++ c.lits)).2 = 0 ∧ ((clauseP ([x] ++ c.lits)).1.bound = 1 → validC p S (clauseP ([x] ++ c.lits)).1 = true) := by
  obtain ⟨c', h1, -, -, h4, h5⟩ := make_good hf hu hv
  rw [h1] at hc
  subst hc
  have hl : ∀ y ∈ [x] ++ c'.lits, plitB y = true := fun y hy => by
    rcases List.mem_append.1 hy with hy | hy
    · obtain rfl : y = x := by simpa using hy
      unfold plitB
      rw [decide_eq_true_eq]
      omega
    · exact lits0_lit hf hu hv y ((h5 y).1 hy)
  have hset : (setL ([x] ++ c'.lits)).length ≤ 65536 := Nat.le_trans (setL_len _) (by simp; omega)
  have h0 := clauseP_ok hl hset
  refine ⟨h0, fun hb => ?_⟩
  have hm := clauseP_mem hl hset hb
  obtain ⟨d, hd⟩ : ∃ d, clauseP ([x] ++ c'.lits) = (d, 0) := ⟨(clauseP ([x] ++ c'.lits)).1, by rw [← h0]⟩
  rw [hd] at hb hm ⊢
  exact valid_from hu hv (normP_valid hd) hb (fun y hy => (hm y).2 (List.mem_append_right _ ((h5 y).2 hy)))
end

/-! ### One more atom, without a rule -/
def GP.more (p : GP) : GP := { p with n := p.n + 1, names := p.names ++ [⟨#[]⟩] }

theorem allR_imp {n : Nat} {f g : Nat → Bool} (h : allR n f = true) (hi : ∀ j, j < n → f j = true → g j = true) : allR n g = true := allR_true fun j hj => hi j hj (allR_get h j hj)

theorem ordered_more {l : List Int} {n : Int} (h : orderedB l n = true) : orderedB l (n + 1) = true := allR_imp h fun j _ e => by
  unfold okAt litB at e ⊢
  simp only [Bool.and_eq_true, decide_eq_true_eq] at e ⊢
  exact ⟨by omega, e.2⟩

theorem inc_more {l : List Int} {n : Int} (h : increasingB l n = true) : increasingB l (n + 1) = true := by
  unfold increasingB at h ⊢
  rw [Bool.and_eq_true] at h ⊢
  exact ⟨ordered_more h.1, h.2⟩

theorem rule_more {r : GR} {n : Int} (hn : 0 ≤ n ∧ n < 4000) (h : ruleE r n = 0) : ruleE r (n + 1) = 0 := by
  unfold ruleE at h ⊢
  split at h
  · omega
  split at h
  · omega
  rename_i h2
  split at h
  · omega
  rename_i h3
  split at h
  · omega
  rename_i h4
  rw [if_neg (by omega), if_neg, if_neg, if_neg h4]
  · rw [ordered_more (by cases e : orderedB r.body n <;> simp_all)]; simp
  · rintro (e | e)
    · rw [inc_more (by cases e2 : increasingB r.head n <;> simp_all)] at e; cases e
    · exact h2 (.inr e)

theorem ixS_app {l : List ByteArray} {x : ByteArray} {i : Nat} (hi : i < l.length) : ixS (l ++ [x]) i = ixS l i := by
  unfold ixS
  rw [List.getD_eq_getElem?_getD, List.getD_eq_getElem?_getD, List.getElem?_append_left hi]

theorem allR_cong {n : Nat} {f g : Nat → Bool} (h : ∀ j, j < n → f j = g j) : allR n f = allR n g := by
  rw [Bool.eq_iff_iff]
  exact ⟨fun e => allR_imp e fun j hj e2 => by rw [← h j hj]; exact e2, fun e => allR_imp e fun j hj e2 => by rw [h j hj]; exact e2⟩

theorem names_more {l : List ByteArray} (h : namesB l = true) : namesB (l ++ [⟨#[]⟩]) = true := by
  unfold namesB at h ⊢
  refine allR_true fun j hj => ?_
  rw [List.length_append, List.length_singleton] at hj
  by_cases e : j < l.length
  · have := allR_get h j e
    unfold nameAt at this ⊢
    rw [ixS_app e]
    have e2 : allR j (fun i => decide (ixS (l ++ [⟨#[]⟩]) i ≠ ixS l j)) = allR j (fun i => decide (ixS l i ≠ ixS l j)) := by
      refine allR_cong fun i hi => ?_
      rw [ixS_app (by omega)]
    rw [e2]
    exact this
  · obtain rfl : j = l.length := by omega
    have e2 : ixS (l ++ [(⟨#[]⟩ : ByteArray)]) l.length = ⟨#[]⟩ := by unfold ixS; simp [List.getD_eq_getElem?_getD]
    unfold nameAt
    rw [e2]
    have e3 : emptyS ⟨#[]⟩ = true := by unfold emptyS; simp [ByteArray.toList, ByteArray.toList.loop, ByteArray.size]
    rw [e3]
    simp [nlB, nlI, Lib.indexByte, ByteArray.size]

theorem more_valid {p : GP} (h : validE p = 0) (hn : p.n < 4000) : validE p.more = 0 := by
  have hr := fun i (hi : i < p.rules.length) => ruleE_at h hi
  have hP := validP h
  have hpn := hP.n
  unfold validE at h ⊢
  split at h
  · omega
  rename_i h1
  split at h
  · omega
  rename_i h2
  split at h
  · rename_i h3; exact absurd h h3
  split at h
  · omega
  rename_i h4
  split at h
  · omega
  rename_i h5
  have e1 : namedB p.more = true := by
    have h1 : namedB p = true := by cases e : namedB p <;> simp_all
    unfold namedB at h1 ⊢
    simp only [Bool.and_eq_true, decide_eq_true_eq] at h1 ⊢
    refine ⟨⟨?_, inc_more h1.1.2⟩, names_more h1.2⟩
    show 0 ≤ p.n + 1 ∧ p.n + 1 ≤ 4000 ∧ (((p.names ++ [(⟨#[]⟩ : ByteArray)]).length : Nat) : Int) = p.n + 1
    rw [List.length_append, List.length_singleton]
    omega
  have e2 : rulesE p.more.rules p.more.n = 0 := by
    show rulesFrom p.rules (p.n + 1) 0 p.rules.length = 0
    have : ∀ m k, k + m ≤ p.rules.length → rulesFrom p.rules (p.n + 1) k m = 0 := by
      intro m
      induction m with
      | zero => intro k _; rfl
      | succ m ih =>
        intro k hk
        unfold rulesFrom
        rw [rule_more (by omega) (hr k (by omega))]
        simp only [ne_eq, not_true_eq_false, if_false]
        exact ih (k + 1) (by omega)
    exact this _ 0 (by omega)
  have e3 : minsB p.more.min p.more.n = true := by
    have h5 : minsB p.min p.n = true := by cases e : minsB p.min p.n <;> simp_all
    show minsB p.min (p.n + 1) = true
    unfold minsB at h5 ⊢
    refine allR_imp h5 fun j _ e => ?_
    unfold minAt at e ⊢
    simp only [Bool.and_eq_true] at e ⊢
    exact ⟨⟨⟨ordered_more e.1.1.1, e.1.1.2⟩, e.1.2⟩, e.2⟩
  rw [if_neg (by rw [e1]; simp), if_neg (show ¬ 40000 < p.more.rules.length from h2), if_neg (by rw [e2]; simp), if_neg (show ¬ 8 < p.more.min.length from h4), if_neg (by rw [e3]; simp)]

theorem alone_unf {p : GP} (h : validE p = 0) (hn : p.n < 4000) : unfB p.more [] [p.n + 1] = true := by
  have hv := more_valid h hn
  have hP := validP h
  have hpn := hP.n
  have h2 : setB' p.more.n [p.n + 1] = true := by
    show setB' (p.n + 1) [p.n + 1] = true
    unfold setB'
    rw [Bool.and_eq_true]
    refine ⟨allR_true fun j hj => ?_, by simp⟩
    obtain rfl : j = 0 := by simpa using hj
    unfold setTo
    simp [ix]
    omega
  have h3 : supsTo p.more [p.n + 1] p.more.rules.length = [] := by
    apply List.eq_nil_iff_forall_not_mem.2
    intro u hu
    obtain ⟨j, hj, -, hh⟩ := sups_at _ _ _ hu
    unfold headIn at hh
    obtain ⟨i, hi, e⟩ := anyR_is hh
    rw [decide_eq_true_eq] at e
    have := inc_pos (hP.head j hj) hi
    have e2 : ix (ixR p.more.rules j).head i = p.n + 1 := by simpa using e
    have e3 : ix (ixR p.rules j).head i = p.n + 1 := e2
    omega
  have h4 : allExc p.more [p.n + 1] [] = true := by unfold allExc; rw [h3]; rfl
  unfold unfB
  rw [hv, h2, h4]
  rfl

end Go.Proofs.YthclpkhaenaknaaGreatDoor

/- pb.Holds, pb.Slack: their contracts. -/
namespace Go.Proofs.YthclpkhaenaknaaGreatDoor
open Go.RowKit Go.Shelf
attribute [local go_sem] Oper.semAt_some


theorem okF_mem {bd : Int} : ∀ {l : List (Int × Int)} {last : Int}, okF bd last l = true → ∀ x ∈ l, plitB x.1 = true ∧ 1 ≤ x.2 ∧ x.2 ≤ bd
  | [], _, _, x, hx => by cases hx
  | y :: l, last, h, x, hx => by
    unfold okF chkB at h
    simp only [Bool.and_eq_true, decide_eq_true_eq] at h
    rcases List.mem_cons.1 hx with rfl | hx
    · exact ⟨h.1.1.1.1, h.1.1.2, h.1.2⟩
    · exact okF_mem h.2 x hx

theorem sumW_bound {t : Int → Bool} {m : Int} (hm : 0 ≤ m) : ∀ {l : List (Int × Int)}, (∀ x ∈ l, 1 ≤ x.2 ∧ x.2 ≤ m) → 0 ≤ sumW t l ∧ sumW t l ≤ m * l.length
  | [], _ => by simp [sumW]
  | x :: l, h => by
    have ih := sumW_bound (t := t) hm (l := l) fun y hy => h y (.tail _ hy)
    have := h x (.head _)
    simp only [sumW, List.length_cons]
    push_cast
    rw [Int.mul_add]
    split <;> omega

theorem pbV_parts {c : PBC} (h : pbV c = true) : c.lits.length = c.coefs.length ∧ 0 ≤ c.bound ∧ c.bound ≤ 16777216 ∧ okF c.bound 0 (c.lits.zip c.coefs) = true ∧ (c.lits.length : Int) ≤ 65536 := by
  unfold pbV at h
  simp only [Bool.and_eq_true, decide_eq_true_eq] at h
  obtain ⟨⟨⟨h1, h2⟩, h3⟩, h4⟩ := h
  refine ⟨h1, h2.1, h2.2, h3, ?_⟩
  obtain ⟨a, b, d, e⟩ := okF_bound _ 0 (Int.le_refl _) h3
  by_cases e0 : c.lits.zip c.coefs = []
  · have := congrArg List.length e0
    rw [List.length_zip, ← h1, Nat.min_self] at this
    rw [this]; decide
  · have := e e0
    rw [List.length_zip, ← h1, Nat.min_self] at a
    omega

/-- What is known of the parts that have come. -/
theorem pv_bound {c : PBC} (h : pbV c = true) {t : Int → Bool} {pre : List (PV c)} (hl : pre.length ≤ c.lits.length) : 0 ≤ sumW t (pvs pre) ∧ sumW t (pvs pre) ≤ 1099511627776 := by
  obtain ⟨h1, h2, h3, h4, h5⟩ := pbV_parts h
  have h6 := sumW_bound (t := t) (m := c.bound) h2 (l := pvs pre) fun x hx => by
    obtain ⟨y, hy, rfl⟩ := List.mem_map.1 hx
    exact (okF_mem h4 _ y.2).2
  rw [pvs_len] at h6
  have h7 : c.bound * (pre.length : Int) ≤ 16777216 * 65536 := Int.le_trans (Int.mul_le_mul_of_nonneg_right h3 (by omega)) (Int.mul_le_mul_of_nonneg_left (by omega) (by omega))
  omega

theorem pv_elem {c : PBC} (h : pbV c = true) (x : PV c) : x.1.1 ≠ 0 ∧ -65536 ≤ x.1.1 ∧ x.1.1 ≤ 65536 ∧ 1 ≤ x.1.2 ∧ x.1.2 ≤ 16777216 := by
  obtain ⟨h1, h2, h3, h4, h5⟩ := pbV_parts h
  obtain ⟨a, b, d⟩ := okF_mem h4 _ x.2
  unfold plitB at a
  rw [decide_eq_true_eq] at a
  omega

def onB (a : List Int) (l : Int) : Bool := decide (0 < valI a l)
def liB (a : List Int) (l : Int) : Bool := decide (0 ≤ valI a l)
def holdsC (c : PBC) (a : List Int) : Bool := pbV c && decide (c.bound ≤ sumW (onB a) (c.lits.zip c.coefs))
def slackC (c : PBC) (a : List Int) : Int := if pbV c then sumW (liB a) (c.lits.zip c.coefs) - c.bound else 0

/-- Where the loop is: the sum so far. -/
structure HSt (c : PBC) (H sb : Nat) (vl vk va : Value) (s0 : Int) (t : Int → Bool) (pre : List (PV c)) (W : World) : Prop where
  box : Blk W H [vl, vk, .int .i64 c.bound] 30
  abox : Blk W (H + 1) [va] 28
  sum : Blk W sb [.int .i64 (s0 + sumW t (pvs pre))] 3

theorem HSt.own {c : PBC} {H sb B : Nat} {vl vk va : Value} {s0 : Int} {t : Int → Bool} : OwnFrom B (fun pre W => HSt c H sb vl vk va s0 t pre W) := fun pre X Y row hs hg hrow => by
  have hr : ∀ r, row = some r → ∃ o : Obj, X.heap[r]? = some o ∧ o.isCells = false := fun r e => (hrow r e).2
  exact ⟨blk_ownP _ _ _ () X Y row hs.box hg hr, blk_ownP _ _ _ () X Y row hs.abox hg hr, blk_ownP _ _ _ () X Y row hs.sum hg hr⟩


set_option maxHeartbeats 4000000 in
set_option maxRecDepth 100000 in
theorem holds_any (v va : Value) (c : PBC) (a : List Int) (w : World) (h : PBIs w v c) (ha : Bytes8 w va a) :
    Calls Tryz.prog 23 #[v, va] w fun e w' => e = .returned (.bool (holdsC c a)) ∧ Below w.heap.size w w' := by
  obtain ⟨vl, vk, rfl, hL, hK, hbd⟩ := h
  obtain ⟨a1, c1, rfl, -, hl1, -, -⟩ := hL.form
  obtain ⟨a2, c2, rfl, -, hl2, -, -⟩ := hK.form
  have ha0 := ha
  obtain ⟨⟨ad, ca, rfl, -⟩, -⟩ := ha0
  have hal : Below w.heap.size w (((w.alloc (.cells #[.slice a1 c.lits.length c1, .slice a2 c.coefs.length c2, .int .i64 c.bound] 30)).alloc (.cells #[.slice ad a.length ca] 28)).alloc (.cells #[.int .i64 0] 3)) := bal (bal (bal (Below.refl _ _) _) _) _
  have HAL := Lib.hid hal
  have HC : Hid (PBIs (((w.alloc (.cells #[.slice a1 c.lits.length c1, .slice a2 c.coefs.length c2, .int .i64 c.bound] 30)).alloc (.cells #[.slice ad a.length ca] 28)).alloc (.cells #[.int .i64 0] 3)) (.agg #[.slice a1 c.lits.length c1, .slice a2 c.coefs.length c2, .int .i64 c.bound]) c) := Lib.hid ⟨_, _, rfl, hL.below hal, hK.below hal, hbd⟩
  have BB : Hid (Blk (((w.alloc (.cells #[.slice a1 c.lits.length c1, .slice a2 c.coefs.length c2, .int .i64 c.bound] 30)).alloc (.cells #[.slice ad a.length ca] 28)).alloc (.cells #[.int .i64 0] 3)) w.heap.size [.slice a1 c.lits.length c1, .slice a2 c.coefs.length c2, .int .i64 c.bound] 30) := Lib.hid (by repeat first | (refine Blk.newAt _ _ _ ?_; first | rfl | (simp only [World.size_alloc]; done) | (simp only [World.size_alloc]; omega)) | refine Blk.alloc ?_ _)
  have BA : Hid (Blk (((w.alloc (.cells #[.slice a1 c.lits.length c1, .slice a2 c.coefs.length c2, .int .i64 c.bound] 30)).alloc (.cells #[.slice ad a.length ca] 28)).alloc (.cells #[.int .i64 0] 3)) (w.heap.size + 1) [.slice ad a.length ca] 28) := Lib.hid (by repeat first | (refine Blk.newAt _ _ _ ?_; first | rfl | (simp only [World.size_alloc]; done) | (simp only [World.size_alloc]; omega)) | refine Blk.alloc ?_ _)
  have BS : Hid (Blk (((w.alloc (.cells #[.slice a1 c.lits.length c1, .slice a2 c.coefs.length c2, .int .i64 c.bound] 30)).alloc (.cells #[.slice ad a.length ca] 28)).alloc (.cells #[.int .i64 0] 3)) (w.heap.size + 1 + 1) [.int .i64 0] 3) := Lib.hid (by repeat first | (refine Blk.newAt _ _ _ ?_; first | rfl | (simp only [World.size_alloc]; done) | (simp only [World.size_alloc]; omega)) | refine Blk.alloc ?_ _)
  have HL := Lib.hid hL
  have HK := Lib.hid hK
  have HA := Lib.hid ha
  unfold InI at hbd
  clear hL hK ha hal
  refine (callsIn_wide (n := 6)).1 ?_
  refine callsIn_of_wp_marks Tryz.func23 rfl trivial ?_ rfl
  simp only [Tryz.ntmps23, List.size_toArray, List.length_cons, List.length_nil, Nat.reduceAdd, Nat.reduceSub, Array.replicate_succ, Array.replicate_zero, List.push_toArray, List.append_toArray, List.nil_append, List.cons_append]
  cases hv : pbV c with
  | false =>
    have HF : Hid (holdsC c a = false) := Lib.hid (by unfold holdsC; rw [hv]; rfl)
    have HV := Lib.hid hv
    clear hv
    gi_wp2_with (refine ⟨trivial, ?_⟩; gi_at_call 18; refine (callsIn_wide.2 (pbValid_any _ c _ HC.out)).mono ?_; rintro e w0 ⟨ev, hb0⟩; rw [HV.out] at ev; subst ev; have kk0 := (BB.out.below hb0).cell; have kk1 := (BA.out.below hb0).cell; have kk2 := (BS.out.below hb0).cell; have kf2 := (BS.out.below hb0).free 0; have HB0 := Lib.hid (bon HAL.out hb0); have B0 := Lib.hid (BB.out.below hb0); have B1 := Lib.hid (BA.out.below hb0); have B2 := Lib.hid (BS.out.below hb0); clear hb0)
    exact ⟨.bool false, by simp [results, Tryz.f23, go_sem], by rw [HF.out], HB0.out⟩
  | true =>
    have HV := Lib.hid hv
    have HLN := Lib.hid (pbV_parts hv).1
    have hbb := (pbV_parts hv).2
    obtain ⟨hb0, hb1', -, hlen⟩ := hbb
    clear hv
    gi_wp2_with (first | (refine ⟨trivial, ?_⟩; gi_at_call 18; refine (callsIn_wide.2 (pbValid_any _ c _ HC.out)).mono ?_; rintro e w0 ⟨ev, hb0⟩; rw [HV.out] at ev; subst ev; have kk0 := (BB.out.below hb0).cell; have kk1 := (BA.out.below hb0).cell; have kk2 := (BS.out.below hb0).cell; have kf2 := (BS.out.below hb0).free 0; have HB0 := Lib.hid (bon HAL.out hb0); have B0 := Lib.hid (BB.out.below hb0); have B1 := Lib.hid (BA.out.below hb0); have B2 := Lib.hid (BS.out.below hb0); clear hb0) | (refine ⟨trivial, ?_⟩; gi_at_call 51; refine (callsIn_wide.2 (parts_any _ _ _ _ ⟨_, _, _, rfl⟩ ⟨_, _, _, rfl⟩)).mono ?_; rintro e w1 ⟨rfl, hb1, hp1⟩))
    have b0 := B0.out.below hb1
    have b1 := B1.out.below hb1
    have b2 := B2.out.below hb1
    have hbw := bon HB0.out hb1
    have hz := hp1.lt
    have hzs : w.heap.size + 1 + 1 < w0.heap.size := B2.out.lt
    have hst : PartSt w w1 [w.heap.size + 1 + 1] w0.heap.size (.slice a1 c.lits.length c1) (.slice a2 c.coefs.length c2) c.bound := ⟨fun i hi => hbw.block i hi, hbw.size, hp1⟩
    have hb1s := hb1.size
    clear hb1 hp1
    refine parts_loop HL.out HK.out HLN.out hst (fun s hs => by simp only [List.mem_cons, List.not_mem_nil, or_false] at hs; omega) (by simp; omega) (by omega) rfl rfl
      (fun pre W => HSt c w.heap.size (w.heap.size + 1 + 1) (.slice a1 c.lits.length c1) (.slice a2 c.coefs.length c2) (.slice ad a.length ca) 0 (onB a) pre W ∧ Up w w1 W)
      (fun _ _ _ => False)
      (OwnFrom.and HSt.own (Up.own hbw.size)) (fun _ _ _ _ _ h _ _ => h)
      ⟨⟨b0, b1, b2⟩, hbw, Nat.le_refl _⟩ ?a1 ?assign ?body ?done ?stop
    case assign =>
      intro l x W K hK
      gi_wp2
      exact hK
    case body =>
      rintro l pre x W ⟨⟨k0, k1, k2⟩, hU⟩ hlt
      have he := pv_elem HV.out x
      have hs := pv_bound HV.out (t := onB a) (pre := pre) (by omega)
      obtain ⟨⟨x1, x2⟩, hx⟩ := x
      dsimp only at he ⊢
      have HX0 : Hid (x1 ≠ 0) := Lib.hid he.1
      have HX1 : Hid (-4611686018427387904 ≤ x1 ∧ x1 ≤ 4611686018427387904) := Lib.hid (by omega)
      have hx2 : 1 ≤ x2 ∧ x2 ≤ 16777216 := he.2.2.2
      have HU := Lib.hid hU
      have HVA := Lib.hid (HA.out.below hU.below)
      have HK0 := Lib.hid k0
      have HK1 := Lib.hid k1
      have HK2 := Lib.hid k2
      have q1 := k1.cell 0
      have q2 := k2.cell 0
      have f2 := k2.free 0
      rw [Int.zero_add] at q2
      have HN : Hid (0 + sumW (onB a) (pvs (pre ++ [⟨(x1, x2), hx⟩])) = sumW (onB a) (pvs pre) + if onB a x1 then x2 else 0) := Lib.hid (by rw [Int.zero_add, pvs_snoc, sumW_snoc])
      have hU2 := hU.size
      clear k0 k1 k2 hU he hst b0 b1 b2
      generalize sumW (onB a) (pvs pre) = S9 at *
      by_cases hp : 0 < valI a x1
      · have HT : Hid (onB a x1 = true) := Lib.hid (decide_eq_true hp)
        gi_wp2_with (refine ⟨trivial, ?_⟩; gi_at_call 58; refine (CallsIn.inRound l (callsIn_wide.2 (pvalue_any _ a _ HVA.out _ HX0.out HX1.out))).mono ?_; rintro e w2 ⟨rfl, rfl⟩)
        refine ⟨KeepsOthers.setCell _ _ _, Lim.setCell _ (.inl (by simp)), ⟨HK0.out.setOther _ _ (by omega), HK1.out.setOther _ _ (by omega), ?_⟩, HU.out.set _ _ _ (by omega)⟩
        rw [HN.out, HT.out]
        exact HK2.out.set 0 _
      · have HT : Hid (onB a x1 = false) := Lib.hid (decide_eq_false hp)
        gi_wp2_with (refine ⟨trivial, ?_⟩; gi_at_call 58; refine (CallsIn.inRound l (callsIn_wide.2 (pvalue_any _ a _ HVA.out _ HX0.out HX1.out))).mono ?_; rintro e w2 ⟨rfl, rfl⟩)
        refine ⟨KeepsOthers.refl _, Lim.refl _ _ _, ⟨HK0.out, HK1.out, ?_⟩, HU.out⟩
        rw [HN.out, HT.out]
        have := HK2.out
        simpa using this
    case done =>
      rintro D xs W hD hS ⟨⟨k0, k1, k2⟩, hU⟩ hK
      have HK0 := Lib.hid k0
      have HK2 := Lib.hid k2
      have q0 := k0.cell
      have q2 := k2.cell 0
      rw [Int.zero_add] at q2
      have HF : Hid (holdsC c a = decide (c.bound ≤ sumW (onB a) (pvs xs))) := Lib.hid (by unfold holdsC; rw [HV.out, hS]; rfl)
      have HU := Lib.hid hU
      have HD := Lib.hid hK
      clear k0 k1 k2 hS hU hK hst b0 b1 b2
      gi_wp2
      refine ⟨by simp, .inl ⟨_, _, rfl, run_takeDeferred HD.out, ?_⟩⟩
      exact ⟨.bool (decide (c.bound ≤ sumW (onB a) (pvs xs))), by simp [results, Tryz.f23, go_sem], by rw [HF.out], HU.out.below.trans (belowK_b (w := w) (Nat.le_refl _) _ D _ _ (by omega) HD.out rfl rfl)⟩
    case stop => rintro D e pre W hD hS ⟨⟩


set_option maxHeartbeats 4000000 in
set_option maxRecDepth 100000 in
theorem slack_any (v va : Value) (c : PBC) (a : List Int) (w : World) (h : PBIs w v c) (ha : Bytes8 w va a) :
    Calls Tryz.prog 24 #[v, va] w fun e w' => e = .returned (.int .i64 (slackC c a)) ∧ Below w.heap.size w w' := by
  obtain ⟨vl, vk, rfl, hL, hK, hbd⟩ := h
  obtain ⟨a1, c1, rfl, -, hl1, -, -⟩ := hL.form
  obtain ⟨a2, c2, rfl, -, hl2, -, -⟩ := hK.form
  have ha0 := ha
  obtain ⟨⟨ad, ca, rfl, -⟩, -⟩ := ha0
  have hal : Below w.heap.size w ((w.alloc (.cells #[.slice a1 c.lits.length c1, .slice a2 c.coefs.length c2, .int .i64 c.bound] 30)).alloc (.cells #[.slice ad a.length ca] 28)) := bal (bal (Below.refl _ _) _) _
  have HAL := Lib.hid hal
  have HC : Hid (PBIs ((w.alloc (.cells #[.slice a1 c.lits.length c1, .slice a2 c.coefs.length c2, .int .i64 c.bound] 30)).alloc (.cells #[.slice ad a.length ca] 28)) (.agg #[.slice a1 c.lits.length c1, .slice a2 c.coefs.length c2, .int .i64 c.bound]) c) := Lib.hid ⟨_, _, rfl, hL.below hal, hK.below hal, hbd⟩
  have BB : Hid (Blk ((w.alloc (.cells #[.slice a1 c.lits.length c1, .slice a2 c.coefs.length c2, .int .i64 c.bound] 30)).alloc (.cells #[.slice ad a.length ca] 28)) w.heap.size [.slice a1 c.lits.length c1, .slice a2 c.coefs.length c2, .int .i64 c.bound] 30) := Lib.hid (by repeat first | (refine Blk.newAt _ _ _ ?_; first | rfl | (simp only [World.size_alloc]; done) | (simp only [World.size_alloc]; omega)) | refine Blk.alloc ?_ _)
  have BA : Hid (Blk ((w.alloc (.cells #[.slice a1 c.lits.length c1, .slice a2 c.coefs.length c2, .int .i64 c.bound] 30)).alloc (.cells #[.slice ad a.length ca] 28)) (w.heap.size + 1) [.slice ad a.length ca] 28) := Lib.hid (by repeat first | (refine Blk.newAt _ _ _ ?_; first | rfl | (simp only [World.size_alloc]; done) | (simp only [World.size_alloc]; omega)) | refine Blk.alloc ?_ _)
  have HL := Lib.hid hL
  have HK := Lib.hid hK
  have HA := Lib.hid ha
  unfold InI at hbd
  clear hL hK ha hal
  refine (callsIn_wide (n := 6)).1 ?_
  refine callsIn_of_wp_marks Tryz.func24 rfl trivial ?_ rfl
  simp only [Tryz.ntmps24, List.size_toArray, List.length_cons, List.length_nil, Nat.reduceAdd, Nat.reduceSub, Array.replicate_succ, Array.replicate_zero, List.push_toArray, List.append_toArray, List.nil_append, List.cons_append]
  cases hv : pbV c with
  | false =>
    have HF : Hid (slackC c a = 0) := Lib.hid (by unfold slackC; rw [hv]; rfl)
    have HV := Lib.hid hv
    clear hv
    gi_wp2_with (refine ⟨trivial, ?_⟩; gi_at_call 18; refine (callsIn_wide.2 (pbValid_any _ c _ HC.out)).mono ?_; rintro e w0 ⟨ev, hb0⟩; rw [HV.out] at ev; subst ev; have kk0 := (BB.out.below hb0).cell; have kk1 := (BA.out.below hb0).cell; have HB0 := Lib.hid (bon HAL.out hb0); have B0 := Lib.hid (BB.out.below hb0); have B1 := Lib.hid (BA.out.below hb0); have hzz := B1.out.lt; have hzy : w.heap.size < w0.heap.size := (by omega); clear hb0)
    exact ⟨.int .i64 0, by simp [results, Tryz.f24, go_sem], by rw [HF.out], HB0.out⟩
  | true =>
    have HV := Lib.hid hv
    have HLN := Lib.hid (pbV_parts hv).1
    have hbb := (pbV_parts hv).2
    obtain ⟨hb0, hb1', -, hlen⟩ := hbb
    clear hv
    gi_wp2_with (first | (refine ⟨trivial, ?_⟩; gi_at_call 18; refine (callsIn_wide.2 (pbValid_any _ c _ HC.out)).mono ?_; rintro e w0 ⟨ev, hb0⟩; rw [HV.out] at ev; subst ev; have kk0 := (BB.out.below hb0).cell; have kk1 := (BA.out.below hb0).cell; have HB0 := Lib.hid (bon HAL.out hb0); have B0 := Lib.hid (BB.out.below hb0); have B1 := Lib.hid (BA.out.below hb0); have hzz := B1.out.lt; have hzy : w.heap.size < w0.heap.size := (by omega); clear hb0) | (refine ⟨trivial, ?_⟩; gi_at_call 51; refine (callsIn_wide.2 (parts_any _ _ _ _ ⟨_, _, _, rfl⟩ ⟨_, _, _, rfl⟩)).mono ?_; rintro e w1 ⟨rfl, hb1, hp1⟩))
    have b0 := (B0.out.alloc _).below hb1
    have b1 := (B1.out.alloc _).below hb1
    have b2 := Blk.below (b := w0.heap.size) (c := [.int .i64 (-c.bound)]) (t := 3) (by repeat first | (refine Blk.newAt _ _ _ ?_; first | rfl | (simp only [World.size_alloc]; done) | (simp only [World.size_alloc]; omega)) | refine Blk.alloc ?_ _) hb1
    have hbw := bon (bal HB0.out _) hb1
    have hz := hp1.lt
    have hzs : w.heap.size + 1 < w0.heap.size := B1.out.lt
    simp only [World.size_alloc] at hz hp1 hb1
    have hst : PartSt w w1 [w0.heap.size] (w0.heap.size + 1) (.slice a1 c.lits.length c1) (.slice a2 c.coefs.length c2) c.bound := ⟨fun i hi => hbw.block i hi, hbw.size, hp1⟩
    have hb1s := hb1.size
    clear hb1 hp1
    refine parts_loop HL.out HK.out HLN.out hst (fun s hs => by simp only [List.mem_cons, List.not_mem_nil, or_false] at hs; omega) (by simp <;> omega) (by omega) rfl rfl
      (fun pre W => HSt c w.heap.size w0.heap.size (.slice a1 c.lits.length c1) (.slice a2 c.coefs.length c2) (.slice ad a.length ca) (-c.bound) (liB a) pre W ∧ Up w w1 W)
      (fun _ _ _ => False)
      (OwnFrom.and HSt.own (Up.own hbw.size)) (fun _ _ _ _ _ h _ _ => h)
      ⟨⟨b0, b1, by rw [show -c.bound + sumW (liB a) (pvs (c := c) []) = -c.bound by simp [pvs, sumW]]; exact b2⟩, hbw, Nat.le_refl _⟩ ?a1 ?assign ?body ?done ?stop
    case assign =>
      intro l x W K hK
      gi_wp2
      exact hK
    case body =>
      rintro l pre x W ⟨⟨k0, k1, k2⟩, hU⟩ hlt
      have he := pv_elem HV.out x
      have hs := pv_bound HV.out (t := liB a) (pre := pre) (by omega)
      obtain ⟨⟨x1, x2⟩, hx⟩ := x
      dsimp only at he ⊢
      have HX0 : Hid (x1 ≠ 0) := Lib.hid he.1
      have HX1 : Hid (-4611686018427387904 ≤ x1 ∧ x1 ≤ 4611686018427387904) := Lib.hid (by omega)
      have hx2 : 1 ≤ x2 ∧ x2 ≤ 16777216 := he.2.2.2
      have HU := Lib.hid hU
      have HVA := Lib.hid (HA.out.below hU.below)
      have HK0 := Lib.hid k0
      have HK1 := Lib.hid k1
      have HK2 := Lib.hid k2
      have q1 := k1.cell 0
      have q2 := k2.cell 0
      have f2 := k2.free 0
      have HN : Hid (-c.bound + sumW (liB a) (pvs (pre ++ [⟨(x1, x2), hx⟩])) = -c.bound + sumW (liB a) (pvs pre) + if liB a x1 then x2 else 0) := Lib.hid (by rw [pvs_snoc, sumW_snoc]; exact (Int.add_assoc _ _ _).symm)
      have hU2 := hU.size
      clear k0 k1 k2 hU he hst b0 b1 b2
      generalize sumW (liB a) (pvs pre) = S9 at *
      by_cases hp : 0 ≤ valI a x1
      · have HT : Hid (liB a x1 = true) := Lib.hid (decide_eq_true hp)
        gi_wp2_with (refine ⟨trivial, ?_⟩; gi_at_call 58; refine (CallsIn.inRound l (callsIn_wide.2 (pvalue_any _ a _ HVA.out _ HX0.out HX1.out))).mono ?_; rintro e w2 ⟨rfl, rfl⟩)
        refine ⟨KeepsOthers.setCell _ _ _, Lim.setCell _ (.inl (by simp)), ⟨HK0.out.setOther _ _ (by omega), HK1.out.setOther _ _ (by omega), ?_⟩, HU.out.set _ _ _ (by omega)⟩
        rw [HN.out, HT.out]
        exact HK2.out.set 0 _
      · have HT : Hid (liB a x1 = false) := Lib.hid (decide_eq_false hp)
        gi_wp2_with (refine ⟨trivial, ?_⟩; gi_at_call 58; refine (CallsIn.inRound l (callsIn_wide.2 (pvalue_any _ a _ HVA.out _ HX0.out HX1.out))).mono ?_; rintro e w2 ⟨rfl, rfl⟩)
        refine ⟨KeepsOthers.refl _, Lim.refl _ _ _, ⟨HK0.out, HK1.out, ?_⟩, HU.out⟩
        rw [HN.out, HT.out]
        have := HK2.out
        simpa using this
    case done =>
      rintro D xs W hD hS ⟨⟨k0, k1, k2⟩, hU⟩ hK
      have HK0 := Lib.hid k0
      have HK2 := Lib.hid k2
      have q0 := k0.cell
      have q2 := k2.cell 0
      have HF : Hid (slackC c a = -c.bound + sumW (liB a) (pvs xs)) := Lib.hid (by unfold slackC; rw [HV.out, hS]; show sumW (liB a) (c.lits.zip c.coefs) - c.bound = _; omega)
      have HU := Lib.hid hU
      have HD := Lib.hid hK
      clear k0 k1 k2 hS hU hK hst b0 b1 b2
      gi_wp2
      refine ⟨by simp, .inl ⟨_, _, rfl, run_takeDeferred HD.out, ?_⟩⟩
      exact ⟨.int .i64 (-c.bound + sumW (liB a) (pvs xs)), by simp [results, Tryz.f24, go_sem], by rw [HF.out], HU.out.below.trans (belowK_b (w := w) (Nat.le_refl _) _ D _ _ (by omega) HD.out rfl rfl)⟩
    case stop => rintro D e pre W hD hS ⟨⟩


end Go.Proofs.YthclpkhaenaknaaGreatDoor
