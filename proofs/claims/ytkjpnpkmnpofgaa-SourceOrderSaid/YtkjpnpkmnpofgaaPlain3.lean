/- The plain law of chapter 33: availability under a set; the founded set is the least closed one; adding sources round by round. -/
import Derived.Test.YtkjpnpkmnpofgaaPlain2
namespace Go.Proofs.Ytkjpnpkmnpofgaa
open Go.RowKit

section mono
variable {p : GP} {a : List Int} {F K F' K' : Int → Int}

theorem avSum_mono {r : GR} {b b' : Int} (hw : ∀ k, k < r.w.length → 1 ≤ ix r.w k) (hl : r.w.length = r.body.length) (h : ∀ l ∈ r.body, holdsB a F K b l = true → holdsB a F' K' b' l = true) : ∀ k, k ≤ r.body.length → avSum r a F K b k ≤ avSum r a F' K' b' k
  | 0, _ => Int.le_refl _
  | k + 1, hk => by
    have h1 := avSum_mono hw hl h k (by omega)
    have h2 := hw k (by omega)
    have h3 := h (ix r.body k) (ix_mem (by omega))
    unfold avSum
    cases h4 : holdsB a F K b (ix r.body k) with
    | true => rw [h3 h4]; simp only [if_true]; omega
    | false =>
      simp only [Bool.false_eq_true, if_false]
      split <;> omega

theorem avB_mono {i : Int} {b b' : Int} (hv : validE p = 0) (hi : 0 ≤ i ∧ i < p.rules.length) (h : ∀ l ∈ (ixR p.rules i.toNat).body, holdsB a F K b l = true → holdsB a F' K' b' l = true) (hav : avB p a F K i b = true) : avB p a F' K' i b' = true := by
  unfold avB availB at *
  simp only [Bool.and_eq_true] at *
  refine ⟨hav.1, ?_⟩
  have h2 := hav.2
  have hil : i.toNat < p.rules.length := by omega
  cases hs : (ixR p.rules i.toNat).sum with
  | true =>
    rw [hs] at h2
    simp only [if_true, decide_eq_true_eq] at h2 ⊢
    obtain ⟨h3, h4, -⟩ := weights_sum ((validP hv).sum i.toNat hil hs)
    have := avSum_mono h4 (by omega) h _ (Nat.le_refl _)
    omega
  | false =>
    rw [hs] at h2
    simp only [Bool.false_eq_true, if_false] at h2 ⊢
    exact allR_true fun k hk => h _ (ix_mem hk) (allR_get h2 k hk)

end mono

/-- Availability under a set, the set as a function that is positive at its elements. -/
def avS (p : GP) (a : List Int) (G : Int → Int) (i : Int) : Bool := avB p a G (fun _ => 0) i 1

theorem holds_set {a : List Int} {G : Int → Int} {l : Int} : holdsB a G (fun _ => 0) 1 l = (!offB a l && (decide (l < 0) || decide (0 < G l))) := by
  unfold holdsB
  have : decide ((0 : Int) < 1) = true := decide_eq_true (by omega)
  rw [this, Bool.and_true]

theorem avS_mono {p : GP} {a : List Int} {G G' : Int → Int} {i : Int} (hv : validE p = 0) (hi : 0 ≤ i ∧ i < p.rules.length) (h : ∀ l, 0 < G l → 0 < G' l) (hav : avS p a G i = true) : avS p a G' i = true :=
  avB_mono hv hi (fun l _ hl => by
    rw [holds_set] at *
    simp only [Bool.and_eq_true, Bool.or_eq_true, decide_eq_true_eq] at *
    exact ⟨hl.1, hl.2.imp id (h l)⟩) hav

theorem avS_of {p : GP} {a : List Int} {F K : Int → Int} {i b clock : Int} (h : SInv p F K clock) (hb : clock < b) : avB p a F K i b = avS p a F i := by
  refine avB_congr fun l hl => ?_
  rw [holds_set]
  unfold holdsB
  rcases h l with h1 | h1
  · rw [h1]; simp
  · have h2 : decide (K l < b) = true := decide_eq_true (by omega)
    rw [h2, Bool.and_true]

/-- A set (positive at its elements) that holds whatever has an available rule. -/
def Closed (p : GP) (a : List Int) (G : Int → Int) : Prop :=
  ∀ x i, 1 ≤ x → x ≤ p.n → offB a x = false → InHead p i x → avS p a G i = true → 0 < G x

structure IsFnd (p : GP) (a : List Int) (G : Int → Int) : Prop where
  dom : ∀ x, 0 < G x → 1 ≤ x ∧ x ≤ p.n
  closed : Closed p a G
  least : ∀ T, Closed p a T → ∀ x, 0 < G x → 0 < T x

theorem IsFnd.unique {p : GP} {a : List Int} {G G' : Int → Int} (h : IsFnd p a G) (h' : IsFnd p a G') (x : Int) : 0 < G x ↔ 0 < G' x :=
  ⟨h.least G' h'.closed x, h'.least G h.closed x⟩

theorem Found.fnd {p : GP} {a : List Int} {F K : Int → Int} {clock : Int} (hv : validE p = 0) (h : Found p a F K clock) : IsFnd p a F := by
  have hinv := h.lost.inv
  have src : ∀ x, 0 < F x → 1 ≤ x ∧ x ≤ p.n ∧ InHead p (F x - 1) x ∧ 1 ≤ K x ∧ K x ≤ clock := fun x hx => by
    rcases hinv x with h1 | h1
    · omega
    · exact h1.2
  refine ⟨fun x hx => ⟨(src x hx).1, (src x hx).2.1⟩, fun x i h1 h2 h3 h4 h5 => ?_, fun T hT => ?_⟩
  · refine Classical.byContradiction fun hn => ?_
    have := h.cmp x i h1 h2 hn h3 h4
    rw [avS_of hinv (by omega), h5] at this
    cases this
  · have : ∀ n : Nat, ∀ x, 0 < F x → K x ≤ n → 0 < T x := by
      intro n
      induction n with
      | zero => intro x hx hk; have := src x hx; omega
      | succ n ih =>
        intro x hx hk
        obtain ⟨h1, h2, h3, h4, h5⟩ := src x hx
        refine hT x (F x - 1) h1 h2 (h.lost.off x hx) h3 (avB_mono hv ⟨h3.1, h3.2.1⟩ (fun l hl hh => ?_) (h.lost.ok x hx))
        rw [holds_set]
        unfold holdsB at hh
        simp only [Bool.and_eq_true, Bool.or_eq_true, decide_eq_true_eq] at hh ⊢
        exact ⟨hh.1, hh.2.imp id (fun h6 => ih l h6.1 (by omega))⟩
    intro x hx
    exact this (K x).toNat x hx (by omega)

/-! ### Adding sources, round by round -/
/-- The founded atoms of 1 .. n that have not been added. -/
def openC (F G : Int → Int) : Nat → Nat
  | 0 => 0
  | n + 1 => openC F G n + if 0 < F ((n : Int) + 1) ∧ ¬ 0 < G ((n : Int) + 1) then 1 else 0

theorem openC_le (F G : Int → Int) : ∀ n, openC F G n ≤ n
  | 0 => Nat.le_refl _
  | n + 1 => by have := openC_le F G n; unfold openC; split <;> omega

theorem openC_mono {F G G' : Int → Int} (h : ∀ x, 0 < G x → 0 < G' x) : ∀ n, openC F G' n ≤ openC F G n
  | 0 => Nat.le_refl _
  | n + 1 => by
    have h1 := openC_mono (F := F) h n
    have h2 := h ((n : Int) + 1)
    unfold openC
    split
    · rename_i h3; rw [if_pos ⟨h3.1, fun h4 => h3.2 (h2 h4)⟩]; omega
    · omega

theorem openC_less {F G G' : Int → Int} (h : ∀ x, 0 < G x → 0 < G' x) {y : Int} (hF : 0 < F y) (hG : ¬ 0 < G y) (hG' : 0 < G' y) : ∀ n : Nat, 1 ≤ y → y ≤ n → openC F G' n < openC F G n
  | 0, h1, h2 => by omega
  | n + 1, h1, h2 => by
    unfold openC
    by_cases e : y = (n : Int) + 1
    · subst e
      have := openC_mono (F := F) h n
      rw [if_neg (fun h3 => h3.2 hG'), if_pos ⟨hF, hG⟩]
      omega
    · have h3 := openC_less h hF hG hG' n h1 (by omega)
      have h2 := h ((n : Int) + 1)
      split
      · rename_i h3; rw [if_pos ⟨h3.1, fun h4 => h3.2 (h2 h4)⟩]; omega
      · omega

theorem openC_zero {F G : Int → Int} : ∀ n : Nat, openC F G n = 0 → ∀ x : Int, 1 ≤ x → x ≤ n → 0 < F x → 0 < G x
  | 0, _, x, h1, h2, _ => by omega
  | n + 1, h, x, h1, h2, h3 => by
    unfold openC at h
    by_cases e : x = (n : Int) + 1
    · subst e
      refine Classical.byContradiction fun h4 => ?_
      rw [if_pos ⟨h3, h4⟩] at h; omega
    · exact openC_zero n (by omega) x h1 (by omega) h3

theorem openC_pos {F G : Int → Int} : ∀ n : Nat, 0 < openC F G n → ∃ x : Int, 1 ≤ x ∧ x ≤ n ∧ 0 < F x ∧ ¬ 0 < G x
  | 0, h => by unfold openC at h; omega
  | n + 1, h => by
    unfold openC at h
    by_cases e : 0 < F ((n : Int) + 1) ∧ ¬ 0 < G ((n : Int) + 1)
    · exact ⟨(n : Int) + 1, by omega, by omega, e.1, e.2⟩
    · rw [if_neg e] at h
      obtain ⟨x, h1, h2, h3⟩ := openC_pos n h
      exact ⟨x, h1, by omega, h3⟩

/-- One of least rank. -/
theorem least_rank {K : Int → Int} {Q : Int → Prop} : ∀ (n : Nat) (x : Int), Q x → (K x).toNat ≤ n → ∃ y, Q y ∧ ∀ z, Q z → K z < K y → K y ≤ 0
  | 0, x, h, hk => ⟨x, h, fun z hz hlt => by omega⟩
  | n + 1, x, h, hk => by
    by_cases e : ∃ z, Q z ∧ K z < K x ∧ 0 < K x
    · obtain ⟨z, h1, h2, h3⟩ := e
      exact least_rank n z h1 (by omega)
    · exact ⟨x, h, fun z hz hlt => by
        refine Classical.byContradiction fun h1 => e ⟨z, hz, hlt, by omega⟩⟩

/-- A round over 1 .. n, under way at x; G0 what stood at its start. -/
structure Round (p : GP) (F K G0 G : Int → Int) (x : Int) : Prop where
  one : ∀ y, G y = 0 ∨ (G y = 1 ∧ 0 < F y)
  up : ∀ y, 0 < G0 y → 0 < G y
  done : ∀ y, 1 ≤ y → y < x → 0 < F y → (∀ l, 0 < F l → K l < K y → 0 < G0 l) → 0 < G y

section round
variable {p : GP} {a : List Int} {F K G0 G : Int → Int} {clock x : Int}

theorem Round.start (h : ∀ y, G y = 0 ∨ (G y = 1 ∧ 0 < F y)) : Round p F K G G 1 := ⟨h, fun _ h => h, fun y h1 h2 => by omega⟩

theorem Round.add (h : Round p F K G0 G x) (hF : 0 < F x) : Round p F K G0 (setI G x 1) (x + 1) := by
  refine ⟨fun y => ?_, fun y hy => ?_, fun y h1 h2 h3 h4 => ?_⟩ <;> by_cases e : y = x
  · subst e; rw [setI_eq]; exact .inr ⟨rfl, hF⟩
  · rw [setI_ne G _ e]; exact h.one y
  · subst e; rw [setI_eq]; omega
  · rw [setI_ne G _ e]; exact h.up y hy
  · subst e; rw [setI_eq]; omega
  · rw [setI_ne G _ e]; exact h.done y h1 (by omega) h3 h4

theorem Round.skip (hv : validE p = 0) (hl : Lost p a F K clock) (h : Round p F K G0 G x) (hs : ¬ 0 < F x ∨ 0 < G x ∨ avS p a G (F x - 1) = false) : Round p F K G0 G (x + 1) := by
  refine ⟨h.one, h.up, fun y h1 h2 h3 h4 => ?_⟩
  by_cases e : y = x
  · subst e
    rcases hs with h5 | h5 | h5
    · exact absurd h3 h5
    · exact h5
    · have hin : InHead p (F y - 1) y := by
        rcases hl.inv y with h6 | h6
        · omega
        · exact h6.2.2.2.1
      have : avS p a G (F y - 1) = true := avB_mono hv ⟨hin.1, hin.2.1⟩ (fun l hl hh => by
        rw [holds_set]
        unfold holdsB at hh
        simp only [Bool.and_eq_true, Bool.or_eq_true, decide_eq_true_eq] at hh ⊢
        exact ⟨hh.1, hh.2.imp id (fun h6 => h.up l (h4 l h6.1 h6.2))⟩) (hl.ok y h3)
      rw [h5] at this; cases this
  · exact h.done y h1 (by omega) h3 h4

theorem Round.finish (hl : Lost p a F K clock) (hn : 0 ≤ p.n) (h : Round p F K G0 G (p.n + 1)) (h0 : openC F G0 p.n.toNat ≠ 0) : openC F G p.n.toNat < openC F G0 p.n.toNat := by
  obtain ⟨x, h1, h2, h3, h4⟩ := openC_pos p.n.toNat (Nat.pos_of_ne_zero h0)
  have src : ∀ x, 0 < F x → 1 ≤ x ∧ x ≤ p.n ∧ 1 ≤ K x := fun x hx => by
    rcases hl.inv x with h1 | h1
    · omega
    · exact ⟨h1.2.1, h1.2.2.1, h1.2.2.2.2.1⟩
  obtain ⟨y, ⟨h5, h6⟩, h7⟩ := least_rank (K := K) (Q := fun z => 0 < F z ∧ ¬ 0 < G0 z) (K x).toNat x ⟨h3, h4⟩ (Nat.le_refl _)
  have hy := src y h5
  refine openC_less h.up h5 h6 (h.done y hy.1 (by omega) h5 (fun l h8 h9 => ?_)) _ hy.1 (by omega)
  refine Classical.byContradiction fun h10 => ?_
  have := h7 l ⟨h8, h10⟩ h9
  omega

end round

end Go.Proofs.Ytkjpnpkmnpofgaa
