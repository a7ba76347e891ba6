/- What a valid program's lists are like; the rows of the sources, as plain lists. -/
import Derived.Test.YtkjpnpkmnpofgaaGp5
import Derived.Test.YtkjpnpkmnpofgaaPool
namespace Go.Proofs.Ytkjpnpkmnpofgaa
open Go.RowKit

def litKey (x : Int) : Int := if 0 ≤ x then 2 * x else -(2 * x) + 1

theorem ordI_key {x y : Int} (h : ordI x y < 0) : litKey x < litKey y := by
  unfold ordI orI cmpI at h
  unfold litKey
  grind

theorem ordered_lt {l : List Int} {n : Int} (h : orderedB l n = true) : ∀ j, j < l.length → ∀ i, i < j → litKey (ix l i) < litKey (ix l j) := by
  intro j
  induction j with
  | zero => intro _ i hi; omega
  | succ j ih =>
    intro hj i hi
    have h1 := allR_get h (j + 1) hj
    simp only [okAt, Bool.and_eq_true, Bool.or_eq_true, beq_iff_eq, decide_eq_true_eq, Nat.add_sub_cancel] at h1
    have h2 := ordI_key (h1.2.resolve_left (by omega))
    rcases Nat.lt_or_ge i j with h3 | h3
    · have := ih (by omega) i h3; omega
    · obtain rfl : i = j := by omega
      exact h2

theorem ordered_new {l : List Int} {n : Int} (h : orderedB l n = true) {j : Nat} (hj : j < l.length) : ix l j ∉ l.take j := by
  intro hm
  obtain ⟨i, hi, e⟩ := List.mem_iff_getElem.1 hm
  simp only [List.length_take] at hi
  have h1 := ordered_lt h j hj i (by omega)
  have : ix l i = ix l j := by
    rw [← e]; simp [ix, List.getD_eq_getElem?_getD, List.getElem?_eq_getElem (show i < l.length by omega)]
  rw [this] at h1; omega

theorem ordered_lit {l : List Int} {n : Int} (h : orderedB l n = true) {x : Int} (hx : x ∈ l) : x ≠ 0 ∧ -n ≤ x ∧ x ≤ n := by
  obtain ⟨i, hi, rfl⟩ := List.mem_iff_getElem.1 hx
  have h1 := allR_get h i hi
  simp only [okAt, litB, Bool.and_eq_true, decide_eq_true_eq] at h1
  have : ix l i = l[i] := by simp [ix, List.getD_eq_getElem?_getD, List.getElem?_eq_getElem hi]
  rw [this] at h1
  exact h1.1

theorem increasing_ordered {l : List Int} {n : Int} (h : increasingB l n = true) : orderedB l n = true := by
  unfold increasingB at h; simp only [Bool.and_eq_true] at h; exact h.1

theorem rulesFrom_zero {l : List GR} {n : Int} : ∀ m k, rulesFrom l n k m = 0 → ∀ i, k ≤ i → i < k + m → ruleE (ixR l i) n = 0
  | 0, k, _, i, h1, h2 => by omega
  | m + 1, k, h, i, h1, h2 => by
    unfold rulesFrom at h
    split at h
    · rename_i hne; exact absurd h hne
    · rename_i he
      by_cases hik : i = k
      · subst hik; exact Decidable.not_not.1 he
      · exact rulesFrom_zero m (k + 1) h i (by omega) (by omega)

/-- What a valid program is. -/
structure ValidP (p : GP) : Prop where
  n : 0 ≤ p.n ∧ p.n ≤ 4000
  rules : p.rules.length ≤ 40000
  head : ∀ i, i < p.rules.length → increasingB (ixR p.rules i).head p.n = true
  body : ∀ i, i < p.rules.length → orderedB (ixR p.rules i).body p.n = true
  sum : ∀ i, i < p.rules.length → (ixR p.rules i).sum = true → weightsB (ixR p.rules i).w (ixR p.rules i).body.length = true
  bound : ∀ i, i < p.rules.length → 0 ≤ (ixR p.rules i).bound

theorem validP {p : GP} (h : validE p = 0) : ValidP p := by
  unfold validE at h
  split at h
  · omega
  rename_i h1
  split at h
  · omega
  rename_i h2
  split at h
  · rename_i h3; exact absurd h h3
  rename_i h3
  have h3 := Decidable.not_not.1 h3
  have hr := fun i (hi : i < p.rules.length) => rulesFrom_zero p.rules.length 0 h3 i (by omega) (by omega)
  simp only [namedB, Bool.not_eq_false, Bool.and_eq_true, decide_eq_true_eq] at h1
  refine ⟨by omega, by omega, fun i hi => ?_, fun i hi => ?_, fun i hi hs => ?_, fun i hi => ?_⟩ <;> have h4 := hr i hi <;> unfold ruleE at h4 <;> grind

/-- A program without what is shown and what is minimised. -/
def GP.bare (p : GP) : GP := { p with shown := [], min := [] }

theorem bare_valid {p : GP} (h : validE p = 0) : validE p.bare = 0 := by
  unfold validE at *
  have e1 : namedB p.bare = (decide (0 ≤ p.n ∧ p.n ≤ 4000 ∧ (p.names.length : Int) = p.n) && namesB p.names) := by
    unfold namedB GP.bare; simp [increasingB, orderedB, allR]
  have e2 : minsB p.bare.min p.bare.n = true := by simp [GP.bare, minsB, allR]
  have e3 : p.bare.rules = p.rules := rfl
  have e4 : p.bare.n = p.n := rfl
  have e5 : p.bare.min.length = 0 := rfl
  split at h
  · omega
  rename_i h1
  have h1' : namedB p.bare = true := by
    rw [e1]; simp only [namedB, Bool.not_eq_false, Bool.and_eq_true] at h1; simp only [Bool.and_eq_true]; exact ⟨h1.1.1, h1.2⟩
  rw [if_neg (by rw [h1']; simp), e2, e3, e4, e5]
  split at h
  · omega
  rename_i h2
  rw [if_neg h2]
  split at h
  · rename_i h3; exact absurd h h3
  rename_i h3
  rw [if_neg h3]
  simp

/-! ### Rows -/
/-- The rows when the first k rules, and the first j places of rule k, have been entered. -/
def RowsAt (q : Int → Bool) (f : Nat → List Int) (k j : Nat) (R : Int → List Int) : Prop :=
  ∀ x, (R x).Pairwise (· < ·) ∧ ∀ i, i ∈ R x ↔ q x = true ∧ ((0 ≤ i ∧ i < k ∧ x ∈ f i.toNat) ∨ (i = k ∧ x ∈ (f k).take j))

section
variable {q : Int → Bool} {f : Nat → List Int} {k j : Nat} {R : Int → List Int}

theorem RowsAt.start : RowsAt q f 0 0 (fun _ => []) := fun x => ⟨List.Pairwise.nil, fun i => by simp; intros; omega⟩

theorem take_ix (l : List Int) (j : Nat) (hj : j < l.length) : l.take (j + 1) = l.take j ++ [ix l j] := by
  rw [List.take_add_one]; simp [ix, List.getElem?_eq_getElem hj]

theorem RowsAt.push (h : RowsAt q f k j R) (hj : j < (f k).length) (hq : q (ix (f k) j) = true) (hn : ix (f k) j ∉ (f k).take j) : RowsAt q f k (j + 1) (pushR R (ix (f k) j) k) := by
  intro y
  obtain ⟨h1, h2⟩ := h y
  unfold pushR
  rw [take_ix _ _ hj]
  split
  · rename_i e
    subst e
    refine ⟨List.pairwise_append.2 ⟨h1, by simp, fun a ha b hb => ?_⟩, fun i => ?_⟩
    · simp only [List.mem_singleton] at hb
      subst hb
      have := ((h2 a).1 ha).2
      rcases this with h3 | h3
      · exact h3.2.1
      · exact absurd h3.2 hn
    · simp only [List.mem_append, List.mem_singleton, h2]
      grind
  · rename_i e
    refine ⟨h1, fun i => ?_⟩
    simp only [List.mem_append, List.mem_singleton, h2, e, or_false]

theorem RowsAt.skip (h : RowsAt q f k j R) (hj : j < (f k).length) (hq : q (ix (f k) j) = false) : RowsAt q f k (j + 1) R := by
  intro y
  obtain ⟨h1, h2⟩ := h y
  rw [take_ix _ _ hj]
  refine ⟨h1, fun i => ?_⟩
  simp only [List.mem_append, List.mem_singleton, h2]
  constructor
  · grind
  · rintro ⟨h3, h4 | ⟨h4, h5 | rfl⟩⟩
    · exact ⟨h3, .inl h4⟩
    · exact ⟨h3, .inr ⟨h4, h5⟩⟩
    · rw [hq] at h3; cases h3

theorem RowsAt.next (h : RowsAt q f k (f k).length R) : RowsAt q f (k + 1) 0 R := by
  intro y
  obtain ⟨h1, h2⟩ := h y
  refine ⟨h1, fun i => ?_⟩
  rw [h2]
  simp only [List.take_length, List.take_zero, List.not_mem_nil, and_false, or_false]
  constructor
  · rintro ⟨h3, h4 | ⟨rfl, h4⟩⟩
    · exact ⟨h3, by omega, by push_cast; omega, h4.2.2⟩
    · exact ⟨h3, by omega, by push_cast; omega, by simpa using h4⟩
  · rintro ⟨h3, h4, h5, h6⟩
    refine ⟨h3, ?_⟩
    by_cases e : i = k
    · subst e; exact .inr ⟨rfl, by simpa using h6⟩
    · exact .inl ⟨h4, by push_cast at h5; omega, h6⟩

theorem lt_length : ∀ (l : List Int) (a b : Int), l.Pairwise (· < ·) → (∀ x ∈ l, a ≤ x ∧ x < b) → a ≤ b → (l.length : Int) ≤ b - a
  | [], a, b, _, _, h => by simp; omega
  | x :: l, a, b, h1, h2, h => by
    obtain ⟨h3, h4⟩ := List.pairwise_cons.1 h1
    have hx := h2 x (.head _)
    have := lt_length l (x + 1) b h4 (fun y hy => ⟨by have := h3 y hy; omega, (h2 y (.tail _ hy)).2⟩) (by omega)
    simp only [List.length_cons]
    push_cast
    omega

theorem RowsAt.len (h : RowsAt q f k j R) (x : Int) : (R x).length ≤ k + 1 := by
  have := lt_length (R x) 0 (k + 1) (h x).1 (fun i hi => by have := ((h x).2 i).1 hi; omega) (by omega)
  omega

end

end Go.Proofs.Ytkjpnpkmnpofgaa
