/- The plain law of reduct.Rounds: a definite program's least closed set. -/
import Derived.Test.YtkjpnpkmnpofgaaMB
namespace Go.Proofs.Ytkjpnpkmnpofgaa
open Go.RowKit

/-- The weight of a literal in a body; what a body lacks at first; what a set of atoms pays. -/
def wOf (r : GR) (k : Nat) : Int := if r.sum then ix r.w k else 1
def need0 (r : GR) : Int := if r.sum then r.bound else r.body.length
def lhsTo (C : List Int) (r : GR) : Nat → Int
  | 0 => 0
  | k + 1 => lhsTo C r k + if ix r.body k ∈ C then wOf r k else 0
def lhs (C : List Int) (r : GR) : Int := lhsTo C r r.body.length
def occTo (a : Int) (r : GR) : Nat → Int
  | 0 => 0
  | k + 1 => occTo a r k + if ix r.body k = a then wOf r k else 0

/-- The rules in whose bodies an atom is, with its weight. -/
def stepU (U : Int → List (Int × Int)) (r : GR) (i : Nat) : Nat → Int → List (Int × Int)
  | 0 => U
  | k + 1 => fun a => if a = ix r.body k then stepU U r i k a ++ [((i : Int), wOf r k)] else stepU U r i k a
def usesU (R : List GR) : Nat → Int → List (Int × Int)
  | 0 => fun _ => []
  | i + 1 => stepU (usesU R i) (ixR R i) i (ixR R i).body.length

def sumAt (i : Int) : List (Int × Int) → Int
  | [] => 0
  | u :: l => (if u.1 = i then u.2 else 0) + sumAt i l

theorem sumAt_append (i : Int) : ∀ l m : List (Int × Int), sumAt i (l ++ m) = sumAt i l + sumAt i m
  | [], m => by simp [sumAt]
  | u :: l, m => by simp only [List.cons_append, sumAt]; rw [sumAt_append i l m]; omega

theorem stepU_sum (U : Int → List (Int × Int)) (r : GR) (i' : Nat) (i a : Int) : ∀ k, sumAt i (stepU U r i' k a) = sumAt i (U a) + if (i' : Int) = i then occTo a r k else 0
  | 0 => by simp [stepU, occTo]
  | k + 1 => by
    have ih := stepU_sum U r i' i a k
    unfold stepU occTo
    by_cases h : a = ix r.body k
    · rw [if_pos h, sumAt_append, ih]
      simp only [sumAt]
      rw [if_pos h.symm]
      split <;> omega
    · rw [if_neg h, ih, if_neg (show ¬ ix r.body k = a from fun e => h e.symm), Int.add_zero]

theorem usesU_sum (R : List GR) (i : Nat) (a : Int) : ∀ m, sumAt i (usesU R m a) = if i < m then occTo a (ixR R i) (ixR R i).body.length else 0
  | 0 => by simp [usesU, sumAt]
  | m + 1 => by
    unfold usesU
    rw [stepU_sum, usesU_sum R i a m]
    by_cases h : m = i
    · subst h; simp
    · rw [if_neg (show ¬ (m : Int) = i by omega)]
      by_cases h2 : i < m
      · rw [if_pos h2, if_pos (by omega)]; omega
      · rw [if_neg h2, if_neg (by omega)]; omega

theorem stepU_mem {U : Int → List (Int × Int)} {r : GR} {i : Nat} {a : Int} {u : Int × Int} : ∀ k, u ∈ stepU U r i k a ↔ u ∈ U a ∨ ∃ j, j < k ∧ ix r.body j = a ∧ u = ((i : Int), wOf r j)
  | 0 => by simp [stepU]
  | k + 1 => by
    have ih := stepU_mem (U := U) (r := r) (i := i) (a := a) (u := u) k
    unfold stepU
    constructor
    · intro h
      split at h
      · rename_i e
        rcases List.mem_append.1 h with h | h
        · rcases ih.1 h with h | ⟨j, h1, h2⟩
          · exact .inl h
          · exact .inr ⟨j, by omega, h2⟩
        · exact .inr ⟨k, by omega, e.symm, by simpa using h⟩
      · rcases ih.1 h with h | ⟨j, h1, h2⟩
        · exact .inl h
        · exact .inr ⟨j, by omega, h2⟩
    · intro h
      have h' : u ∈ stepU U r i k a ∨ (a = ix r.body k ∧ u = ((i : Int), wOf r k)) := by
        rcases h with h | ⟨j, h1, h2, h3⟩
        · exact .inl (ih.2 (.inl h))
        · by_cases hj : j = k
          · subst hj; exact .inr ⟨h2.symm, h3⟩
          · exact .inl (ih.2 (.inr ⟨j, by omega, h2, h3⟩))
      split
      · rename_i e
        rcases h' with h' | ⟨_, h'⟩
        · exact List.mem_append_left _ h'
        · exact List.mem_append_right _ (by simp [h'])
      · rename_i e
        rcases h' with h' | ⟨h', _⟩
        · exact h'
        · exact absurd h' e

theorem usesU_mem {R : List GR} {a : Int} {u : Int × Int} : ∀ m, u ∈ usesU R m a ↔ ∃ i j : Nat, i < m ∧ j < (ixR R i).body.length ∧ ix (ixR R i).body j = a ∧ u = ((i : Int), wOf (ixR R i) j)
  | 0 => by simp [usesU]
  | m + 1 => by
    unfold usesU
    rw [stepU_mem, usesU_mem m]
    constructor
    · rintro (⟨i, j, h1, h2⟩ | ⟨j, h1, h2⟩)
      · exact ⟨i, j, by omega, h2⟩
      · exact ⟨m, j, by omega, h1, h2⟩
    · rintro ⟨i, j, h1, h2⟩
      by_cases e : i = m
      · subst e; exact .inr ⟨j, h2⟩
      · exact .inl ⟨i, j, by omega, h2⟩

theorem stepU_len (U : Int → List (Int × Int)) (r : GR) (i : Nat) (a : Int) : ∀ k, (stepU U r i k a).length ≤ (U a).length + k
  | 0 => by simp [stepU]
  | k + 1 => by
    have := stepU_len U r i a k
    unfold stepU
    split
    · simp; omega
    · omega

theorem usesU_len (R : List GR) (a : Int) (B : Nat) (h : ∀ i, i < R.length → (ixR R i).body.length ≤ B) : ∀ m, m ≤ R.length → (usesU R m a).length ≤ m * B
  | 0, _ => by simp [usesU]
  | m + 1, hm => by
    have h1 := usesU_len R a B h m (by omega)
    have h2 := stepU_len (usesU R m) (ixR R m) m a (ixR R m).body.length
    have h3 := h m (by omega)
    unfold usesU
    rw [Nat.succ_mul]
    omega

theorem lhsTo_push {C : List Int} {a : Int} (h : a ∉ C) (r : GR) : ∀ k, lhsTo (C ++ [a]) r k = lhsTo C r k + occTo a r k
  | 0 => by simp [lhsTo, occTo]
  | k + 1 => by
    unfold lhsTo occTo
    rw [lhsTo_push h r k]
    by_cases e : ix r.body k = a
    · rw [if_pos e, if_pos (by simp [e]), if_neg (by rw [e]; exact h)]; omega
    · rw [if_neg e]
      by_cases e2 : ix r.body k ∈ C
      · rw [if_pos e2, if_pos (by simp [e2])]; omega
      · rw [if_neg e2, if_neg (by simp [e, e2])]; omega

/-- Definite rules over the atoms 1 .. n. -/
structure DefR (n : Int) (R : List GR) : Prop where
  rng : 0 ≤ n ∧ n ≤ 4000
  len : R.length ≤ 40000
  head : ∀ i, i < R.length → (ixR R i).head.length ≤ 1 ∧ ∀ x ∈ (ixR R i).head, 1 ≤ x ∧ x ≤ n
  body : ∀ i, i < R.length → (∀ k, k < (ixR R i).body.length → 1 ≤ ix (ixR R i).body k ∧ ix (ixR R i).body k ≤ n) ∧ (ixR R i).body.length ≤ 8002
  wts : ∀ i, i < R.length → (ixR R i).sum = true → (ixR R i).w.length = (ixR R i).body.length ∧ ∀ k, k < (ixR R i).w.length → 1 ≤ ix (ixR R i).w k ∧ ix (ixR R i).w k ≤ 1048576 - sumTo (ixR R i).w k
  bound : ∀ i, i < R.length → (ixR R i).sum = true → 0 ≤ (ixR R i).bound ∧ (ixR R i).bound ≤ 1048576

section
variable {n : Int} {R : List GR}

theorem DefR.w1 (h : DefR n R) {i : Nat} (hi : i < R.length) {k : Nat} (hk : k < (ixR R i).body.length) : 1 ≤ wOf (ixR R i) k ∧ wOf (ixR R i) k ≤ 1048576 ∧ ((ixR R i).sum = true → k < (ixR R i).w.length) := by
  unfold wOf
  cases hs : (ixR R i).sum with
  | false => simp
  | true =>
    obtain ⟨h1, h2⟩ := h.wts i hi hs
    have h3 := h2 k (by omega)
    have : ∀ m, m ≤ (ixR R i).w.length → 0 ≤ sumTo (ixR R i).w m := fun m => by
      induction m with
      | zero => intro _; simp [sumTo]
      | succ m ih => intro hm; have := ih (by omega); have := h2 m (by omega); unfold sumTo; omega
    have := this k (by omega)
    simp only [if_true]
    exact ⟨h3.1, by omega, fun _ => by omega⟩

/-- What a set pays: at most the whole. -/
theorem DefR.lhs_le (h : DefR n R) {i : Nat} (hi : i < R.length) (C : List Int) : ∀ k, k ≤ (ixR R i).body.length → 0 ≤ lhsTo C (ixR R i) k ∧ lhsTo C (ixR R i) k ≤ (if (ixR R i).sum then sumTo (ixR R i).w k else k)
  | 0, _ => by simp [lhsTo, sumTo]
  | k + 1, hk => by
    have ih := DefR.lhs_le h hi C k (by omega)
    have hw := (h.w1 hi (show k < _ by omega)).1
    unfold lhsTo
    have hle : wOf (ixR R i) k = if (ixR R i).sum then ix (ixR R i).w k else 1 := rfl
    cases hs : (ixR R i).sum with
    | false =>
      rw [hs] at ih hle
      simp only [if_false, Bool.false_eq_true] at ih hle ⊢
      split <;> push_cast <;> omega
    | true =>
      rw [hs] at ih hle
      simp only [if_true] at ih hle ⊢
      unfold sumTo
      split <;> omega

theorem DefR.sum_le (h : DefR n R) {i : Nat} (hi : i < R.length) (hs : (ixR R i).sum = true) : ∀ k, k ≤ (ixR R i).w.length → sumTo (ixR R i).w k ≤ 1048576
  | 0, _ => by simp [sumTo]
  | k + 1, hk => by have := (h.wts i hi hs).2 k (by omega); unfold sumTo; omega

/-- What is lacking stays small. -/
theorem DefR.need (h : DefR n R) {i : Nat} (hi : i < R.length) (C : List Int) {k : Nat} (hk : k ≤ (ixR R i).body.length) : -1048576 ≤ need0 (ixR R i) - lhsTo C (ixR R i) k ∧ need0 (ixR R i) - lhsTo C (ixR R i) k ≤ 1048576 := by
  have h1 := h.lhs_le hi C k hk
  have hb := (h.body i hi).2
  unfold need0
  cases hs : (ixR R i).sum with
  | false =>
    rw [hs] at h1
    simp only [if_false, Bool.false_eq_true] at h1 ⊢
    omega
  | true =>
    rw [hs] at h1
    have h2 := h.sum_le hi hs k (by have := (h.wts i hi hs).1; omega)
    have h3 := h.bound i hi hs
    simp only [if_true] at h1 ⊢
    omega

theorem lhsTo_mono (h : DefR n R) {i : Nat} (hi : i < R.length) {C C' : List Int} (hc : ∀ x ∈ C, x ∈ C') : ∀ k, k ≤ (ixR R i).body.length → lhsTo C (ixR R i) k ≤ lhsTo C' (ixR R i) k
  | 0, _ => by simp [lhsTo]
  | k + 1, hk => by
    have ih := lhsTo_mono h hi hc k (by omega)
    have hw := (h.w1 hi (show k < _ by omega)).1
    unfold lhsTo
    by_cases h1 : ix (ixR R i).body k ∈ C
    · rw [if_pos h1, if_pos (hc _ h1)]; omega
    · rw [if_neg h1]; split <;> omega

theorem lhsTo_congr {C C' : List Int} (hc : ∀ x, x ∈ C ↔ x ∈ C') (r : GR) : ∀ k, lhsTo C r k = lhsTo C' r k
  | 0 => rfl
  | k + 1 => by unfold lhsTo; rw [lhsTo_congr hc r k]; simp only [hc]

/-- The sets that the rules leave as they are; what is in all of them. -/
def ClosedD (R : List GR) (T : List Int) : Prop := ∀ i, i < R.length → need0 (ixR R i) ≤ lhs T (ixR R i) → ∀ x ∈ (ixR R i).head, x ∈ T
def Der (R : List GR) (x : Int) : Prop := ∀ T, ClosedD R T → x ∈ T

/-- M is the least closed set. -/
structure IsLeast (R : List GR) (M : List Int) : Prop where
  closed : ClosedD R M
  least : ∀ x ∈ M, Der R x

theorem der_of (h : DefR n R) {C : List Int} (hC : ∀ x ∈ C, Der R x) {i : Nat} (hi : i < R.length) (hn : need0 (ixR R i) ≤ lhs C (ixR R i)) {x : Int} (hx : x ∈ (ixR R i).head) : Der R x := fun T hT =>
  hT i hi (Int.le_trans hn (lhsTo_mono h hi (fun y hy => hC y hy T hT) _ (Nat.le_refl _))) x hx

/-- Between two rounds. C: the atoms that have been paid; l: those that are new; od: the round of each atom; nd: what each rule lacks. -/
structure Lv (n : Int) (R : List GR) (C l od nd : List Int) : Prop where
  nodup : (C ++ l).Nodup
  range : ∀ x ∈ C ++ l, 1 ≤ x ∧ x ≤ n
  olen : (od.length : Int) = n
  nlen : nd.length = R.length
  out : ∀ x : Int, 1 ≤ x → x ≤ n → (0 < ix od (x - 1).toNat ↔ x ∈ C ++ l) ∧ 0 ≤ ix od (x - 1).toNat ∧ ix od (x - 1).toNat ≤ 4000000
  der : ∀ x ∈ C ++ l, Der R x

/-- The rules that have been asked. -/
def Asked (R : List GR) (A nd : List Int) (Todo : Nat → Prop) : Prop := ∀ i, i < R.length → ix nd i ≤ 0 → (∀ x ∈ (ixR R i).head, x ∈ A) ∨ Todo i
def Paid (R : List GR) (C nd : List Int) : Prop := ∀ i, i < R.length → ix nd i = need0 (ixR R i) - lhs C (ixR R i)

theorem nodup_short : ∀ (n : Nat) (l : List Int), l.Nodup → (∀ x ∈ l, 1 ≤ x ∧ x ≤ n) → l.length ≤ n
  | 0, l, _, h => by
    cases l with
    | nil => simp
    | cons x l => have := h x (by simp); omega
  | n + 1, l, hd, h => by
    by_cases hm : ((n : Int) + 1) ∈ l
    · have h1 := List.length_erase_of_mem hm
      have h2 := nodup_short n (l.erase ((n : Int) + 1)) (hd.erase _) (fun x hx => by
        have h3 := (hd.mem_erase_iff.1 hx)
        have h4 := h x h3.2
        have h5 := h3.1
        omega)
      omega
    · have := nodup_short n l hd (fun x hx => by
        have h4 := h x hx
        have h5 : x ≠ (n : Int) + 1 := fun e => hm (e ▸ hx)
        omega)
      omega

theorem Lv.short {C l od nd : List Int} (h : Lv n R C l od nd) (hn : 0 ≤ n) : (C ++ l).length ≤ n.toNat := by
  exact nodup_short _ _ h.nodup (fun x hx => by have := h.range x hx; omega)

theorem ix_set (l : List Int) (i j : Nat) (v : Int) (hi : i < l.length) : ix (l.set i v) j = if j = i then v else ix l j := by
  unfold ix
  simp only [List.getD_eq_getElem?_getD]
  by_cases h : j = i
  · subst h; rw [if_pos rfl, List.getElem?_set_self hi]; rfl
  · rw [if_neg h, List.getElem?_set_ne (by omega)]

/-- reach: the head is taken. -/
theorem Lv.take {C l od nd : List Int} (hd : DefR n R) (h : Lv n R C l od nd) (hp : Paid R C nd) {i : Nat} (hi : i < R.length) (h0 : ix nd i ≤ 0) {x : Int} (hx : (ixR R i).head = [x]) (ho : ix od (x - 1).toNat = 0) {round : Int} (hr : 1 ≤ round ∧ round ≤ 4000000) :
    Lv n R C (l ++ [x]) (od.set (x - 1).toNat round) nd := by
  have hxr := (hd.head i hi).2 x (by rw [hx]; simp)
  have hxn : x ∉ C ++ l := fun hm => by have := (h.out x hxr.1 hxr.2).1.2 hm; omega
  have hol := h.olen
  have hlt : (x - 1).toNat < od.length := by omega
  refine ⟨by rw [← List.append_assoc]; exact List.nodup_append.2 ⟨h.nodup, by simp, fun a ha b hb => by simp only [List.mem_singleton] at hb; subst hb; rintro rfl; exact hxn ha⟩, fun y hy => ?_, by simpa using hol, h.nlen, fun y h1 h2 => ?_, fun y hy => ?_⟩
  · rw [← List.append_assoc] at hy
    rcases List.mem_append.1 hy with hy | hy
    · exact h.range y hy
    · simp only [List.mem_singleton] at hy; subst hy; exact hxr
  · rw [ix_set _ _ _ _ hlt, ← List.append_assoc]
    by_cases e : y = x
    · subst e; rw [if_pos rfl]; simp; omega
    · rw [if_neg (by omega)]
      have h3 := h.out y h1 h2
      refine ⟨h3.1.trans ?_, h3.2⟩
      simp [e]
  · rw [← List.append_assoc] at hy
    rcases List.mem_append.1 hy with hy | hy
    · exact h.der y hy
    · simp only [List.mem_singleton] at hy; subst hy
      exact der_of hd (fun z hz => h.der z (List.mem_append_left _ hz)) hi (by have := hp i hi; omega) (by rw [hx]; simp)

/-- Nothing paid, nothing new. -/
theorem lhsTo_nil (r : GR) : ∀ k, lhsTo [] r k = 0
  | 0 => rfl
  | k + 1 => by unfold lhsTo; rw [lhsTo_nil r k]; simp

theorem lhsTo_same {C C' : List Int} {r : GR} : ∀ k, (∀ j, j < k → (ix r.body j ∈ C ↔ ix r.body j ∈ C')) → lhsTo C r k = lhsTo C' r k
  | 0, _ => rfl
  | k + 1, h => by
    unfold lhsTo
    rw [lhsTo_same k (fun j hj => h j (by omega))]
    by_cases h1 : ix r.body k ∈ C
    · rw [if_pos h1, if_pos ((h k (by omega)).1 h1)]
    · rw [if_neg h1, if_neg (fun h2 => h1 ((h k (by omega)).2 h2))]

theorem sumAt_nonneg (i : Int) : ∀ l : List (Int × Int), (∀ u ∈ l, 0 ≤ u.2) → 0 ≤ sumAt i l
  | [], _ => by simp [sumAt]
  | u :: l, h => by
    have h1 := sumAt_nonneg i l (fun v hv => h v (by simp [hv]))
    have h2 := h u (by simp)
    unfold sumAt
    split <;> omega

theorem sumAt_take_le (i : Int) (l : List (Int × Int)) (h : ∀ u ∈ l, 0 ≤ u.2) (q : Nat) : 0 ≤ sumAt i (l.take q) ∧ sumAt i (l.take q) ≤ sumAt i l := by
  have h1 := sumAt_nonneg i (l.take q) (fun u hu => h u (List.mem_of_mem_take hu))
  have h2 := sumAt_nonneg i (l.drop q) (fun u hu => h u (List.mem_of_mem_drop hu))
  have h3 := sumAt_append i (l.take q) (l.drop q)
  rw [List.take_append_drop] at h3
  omega

theorem sumAt_take_succ (i : Int) (l : List (Int × Int)) (q : Nat) (hq : q < l.length) : sumAt i (l.take (q + 1)) = sumAt i (l.take q) + if (l.getD q (0, 0)).1 = i then (l.getD q (0, 0)).2 else 0 := by
  rw [List.take_add_one, List.getElem?_eq_getElem hq, sumAt_append]
  simp [sumAt, List.getD_eq_getElem?_getD, List.getElem?_eq_getElem hq]

/-- The rules that the atoms of L, from place j on, still call for. -/
def Todo (R : List GR) (L : List Int) (j : Nat) (i : Nat) : Prop := ∃ j', j ≤ j' ∧ j' < L.length ∧ ∃ u ∈ usesU R R.length (ix L j'), u.1 = (i : Int)
def Todo2 (R : List GR) (L : List Int) (j q : Nat) (i : Nat) : Prop := (∃ q', q ≤ q' ∧ q' < (usesU R R.length (ix L j)).length ∧ ((usesU R R.length (ix L j)).getD q' (0, 0)).1 = (i : Int)) ∨ Todo R L (j + 1) i

theorem Todo.open {L : List Int} {j i : Nat} (h : Todo R L j i) : Todo2 R L j 0 i := by
  obtain ⟨j', h1, h2, u, hu, e⟩ := h
  by_cases hj : j' = j
  · subst hj
    obtain ⟨q, hq, e2⟩ := List.mem_iff_getElem.1 hu
    exact .inl ⟨q, by omega, hq, by rw [List.getD_eq_getElem?_getD, List.getElem?_eq_getElem hq]; simp [e2, e]⟩
  · exact .inr ⟨j', by omega, h2, u, hu, e⟩

theorem Todo2.close {L : List Int} {j i : Nat} (h : Todo2 R L j (usesU R R.length (ix L j)).length i) : Todo R L (j + 1) i := by
  rcases h with ⟨q, h1, h2, _⟩ | h
  · omega
  · exact h

theorem Todo.none {L : List Int} {i : Nat} (h : Todo R L L.length i) : False := by
  obtain ⟨j, h1, h2, _⟩ := h
  omega

/-- The new atoms are paid: which rules are to be asked. -/
theorem Asked.pay {C l nd nd' : List Int} (hp : Paid R C nd) (hp' : Paid R (C ++ l) nd') (ha : Asked R (C ++ l) nd (fun _ => False)) : Asked R (C ++ l) nd' (Todo R l 0) := by
  intro i hi h0
  by_cases h1 : ix nd i ≤ 0
  · rcases ha i hi h1 with h2 | h2
    · exact .inl h2
    · exact h2.elim
  · right
    by_cases ht : Todo R l 0 i
    · exact ht
    · exfalso
      have e : lhs (C ++ l) (ixR R i) = lhs C (ixR R i) := lhsTo_same _ (fun k hk => by
        constructor
        · intro hm
          rcases List.mem_append.1 hm with hm | hm
          · exact hm
          · obtain ⟨j, hj, e2⟩ := List.mem_iff_getElem.1 hm
            exfalso
            refine ht ⟨j, Nat.zero_le _, hj, ((i : Int), wOf (ixR R i) k), ?_, rfl⟩
            have e3 : ix l j = ix (ixR R i).body k := by rw [← e2]; simp [ix, List.getD_eq_getElem?_getD, List.getElem?_eq_getElem hj]
            rw [e3]
            exact (usesU_mem _).2 ⟨i, k, hi, hk, rfl, rfl⟩
        · exact fun hm => List.mem_append_left _ hm)
      have := hp i hi
      have := hp' i hi
      omega

/-- What is in the list of the rounds above 0. -/
def posL (od : List Int) : Nat → List Int
  | 0 => []
  | k + 1 => if 0 < ix od k then posL od k ++ [(k : Int) + 1] else posL od k

theorem posL_mem (od : List Int) (x : Int) : ∀ k, x ∈ posL od k ↔ 1 ≤ x ∧ x ≤ k ∧ 0 < ix od (x - 1).toNat
  | 0 => by simp [posL]; omega
  | k + 1 => by
    have ih := posL_mem od x k
    unfold posL
    split
    · rename_i h
      simp only [List.mem_append, List.mem_singleton, ih]
      constructor
      · rintro (h1 | h1)
        · exact ⟨h1.1, by omega, h1.2.2⟩
        · refine ⟨by omega, by omega, ?_⟩
          have : (x - 1).toNat = k := by omega
          rw [this]; exact h
      · rintro ⟨h1, h2, h3⟩
        by_cases e : x = (k : Int) + 1
        · exact .inr e
        · exact .inl ⟨h1, by omega, h3⟩
    · rename_i h
      rw [ih]
      constructor
      · rintro ⟨h1, h2, h3⟩; exact ⟨h1, by omega, h3⟩
      · rintro ⟨h1, h2, h3⟩
        refine ⟨h1, ?_, h3⟩
        by_cases e : x = (k : Int) + 1
        · have : (x - 1).toNat = k := by omega
          rw [this] at h3; exact absurd h3 h
        · omega

theorem posL_len (od : List Int) : ∀ k, (posL od k).length ≤ k
  | 0 => by simp [posL]
  | k + 1 => by have := posL_len od k; unfold posL; split <;> simp <;> omega

theorem posL_range (od : List Int) (k : Nat) : ∀ x ∈ posL od k, 1 ≤ x ∧ x ≤ k := fun x hx => by have := (posL_mem od x k).1 hx; omega

theorem posL_sorted (od : List Int) : ∀ k, (posL od k).Pairwise (· < ·)
  | 0 => by simp [posL]
  | k + 1 => by
    have ih := posL_sorted od k
    unfold posL
    split
    · refine List.pairwise_append.2 ⟨ih, by simp, fun a ha b hb => ?_⟩
      simp only [List.mem_singleton] at hb
      have := (posL_range od k a ha).2
      omega
    · exact ih

/-- The end. -/
theorem Lv.done {C od nd : List Int} (h : Lv n R C [] od nd) (hp : Paid R C nd) (ha : Asked R C nd (fun _ => False)) : IsLeast R (posL od n.toNat) := by
  have hC : ∀ x, x ∈ posL od n.toNat ↔ x ∈ C := fun x => by
    rw [posL_mem]
    constructor
    · rintro ⟨h1, h2, h3⟩
      have := ((h.out x h1 (by omega)).1).1 h3
      simpa using this
    · intro hx
      have hr := h.range x (by simpa using hx)
      exact ⟨hr.1, by omega, ((h.out x hr.1 hr.2).1).2 (by simpa using hx)⟩
  refine ⟨fun i hi hn x hx => ?_, fun x hx => h.der x (by simpa using (hC x).1 hx)⟩
  have e : lhs (posL od n.toNat) (ixR R i) = lhs C (ixR R i) := lhsTo_congr hC _ _
  rcases ha i hi (by have := hp i hi; omega) with h1 | h1
  · exact (hC x).2 (h1 x hx)
  · exact h1.elim

end

end Go.Proofs.Ytkjpnpkmnpofgaa
