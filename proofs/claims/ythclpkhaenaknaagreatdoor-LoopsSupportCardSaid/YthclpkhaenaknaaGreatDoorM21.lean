/- My texts CpP, CpR, CpV, Spp0, merged. -/
import Derived.Test.YthclpkhaenaknaaGreatDoorM09
import Derived.Test.YthclpkhaenaknaaGreatDoorM04
import Derived.Test.YthclpkhaenaknaaGreatDoorM05
import Derived.Test.YthclpkhaenaknaaGreatDoorM15
import Derived.Test.YthclpkhaenaknaaGreatDoorM18

/- The completion of a program (plain): its constraints, and what they say together. -/
namespace Go.Proofs.YthclpkhaenaknaaGreatDoor

def negL (l : List Int) : List Int := l.map fun x => -x
def restI (r : GR) : Int := 1 - r.bound + sumTo r.w r.w.length
def compH (r : GR) (b : Int) : List PBC :=
  if r.sum then [(normP (r.body ++ [-b]) (r.w ++ [r.bound]) r.bound).1, (normP (negL r.body ++ [b]) (r.w ++ [max (restI r) 0]) (restI r)).1]
  else (r.body.map fun l => (clauseP [-b, l]).1) ++ [(clauseP (negL r.body ++ [b])).1]
def compR (r : GR) (b : Int) : List PBC := compH r b ++ (if r.choice then [] else [(clauseP (r.head ++ [-b])).1])
/-- The body variables of the first k rules with the atom in the head. -/
def supAt' (p : GP) (a : Int) : Nat → List Int
  | 0 => []
  | k + 1 => supAt' p a k ++ (if a ∈ (ixR p.rules k).head then [p.n + 1 + k] else [])
def atomC (p : GP) (a : Int) : PBC := (clauseP (supAt' p a p.rules.length ++ [-a])).1
def compTo (p : GP) : Nat → List PBC
  | 0 => []
  | k + 1 => compTo p k ++ compR (ixR p.rules k) (p.n + 1 + k)
def atomTo (p : GP) : Nat → List PBC
  | 0 => []
  | k + 1 => atomTo p k ++ [atomC p ((k : Int) + 1)]
def compL (p : GP) : List PBC := compTo p p.rules.length ++ atomTo p p.n.toNat

/-! ### Lists -/
theorem ix_lft {l m : List Int} {j : Nat} (h : j < l.length) : ix (l ++ m) j = ix l j := by
  unfold ix
  rw [List.getD_eq_getElem?_getD, List.getD_eq_getElem?_getD, List.getElem?_append_left h]
theorem ix_end {l : List Int} {x : Int} : ix (l ++ [x]) l.length = x := by
  unfold ix
  rw [List.getD_eq_getElem?_getD, List.getElem?_append_right (Nat.le_refl _)]
  simp
theorem ix_neg {l : List Int} {j : Nat} (h : j < l.length) : ix (negL l) j = -(ix l j) := by
  unfold ix negL
  simp [List.getD_eq_getElem?_getD, h]
theorem negL_len (l : List Int) : (negL l).length = l.length := by simp [negL]

theorem sumLK_congr {t u : Int → Bool} {L K L' K' : List Int} : ∀ (i : Nat), (∀ j, j < i → t (ix L j) = u (ix L' j) ∧ ix K j = ix K' j) → sumLK t L K i = sumLK u L' K' i
  | 0, _ => rfl
  | i + 1, h => by
    obtain ⟨h1, h2⟩ := h i (by omega)
    simp only [sumLK, sumLK_congr i fun j hj => h j (by omega), h1, h2]

theorem sumLK_app {t : Int → Bool} {L K : List Int} {x y : Int} (h : L.length = K.length) : sumLK t (L ++ [x]) (K ++ [y]) (L ++ [x]).length = sumLK t L K L.length + if t x then y else 0 := by
  rw [List.length_append, List.length_singleton]
  show sumLK t (L ++ [x]) (K ++ [y]) L.length + _ = _
  rw [sumLK_congr (u := t) (L' := L) (K' := K) L.length fun j hj => ⟨by rw [ix_lft hj], ix_lft (by omega)⟩, ix_end, h, ix_end]

theorem sumLK_nonneg {t : Int → Bool} {L K : List Int} : ∀ (i : Nat), (∀ j, j < i → 0 ≤ ix K j) → 0 ≤ sumLK t L K i
  | 0, _ => Int.le_refl _
  | i + 1, h => by
    have h1 := sumLK_nonneg (t := t) (L := L) i fun j hj => h j (by omega)
    have h2 := h i (by omega)
    simp only [sumLK]
    split <;> omega

theorem sumLK_le {t : Int → Bool} {L K : List Int} : ∀ (i : Nat), (∀ j, j < i → 0 ≤ ix K j) → sumLK t L K i ≤ sumTo K i
  | 0, _ => Int.le_refl _
  | i + 1, h => by
    have h1 := sumLK_le (t := t) (L := L) i fun j hj => h j (by omega)
    have h2 := h i (by omega)
    simp only [sumLK, sumTo]
    split <;> omega

/-- What is true and what is not, together. -/
theorem sumLK_neg {t : Int → Bool} (ht : Tot t) {L K : List Int} : ∀ (i : Nat), i ≤ L.length → (∀ j, j < i → ix L j ≠ 0) → sumLK t (negL L) K i = sumTo K i - sumLK t L K i
  | 0, _, _ => by simp [sumLK, sumTo]
  | i + 1, hi, h => by
    have ih := sumLK_neg ht (K := K) i (by omega) fun j hj => h j (by omega)
    simp only [sumLK, sumTo]
    rw [ih, ix_neg (by omega), ht _ (h i (by omega))]
    cases t (ix L i) <;> simp <;> omega

/-! ### The normal form has no error -/
theorem normP_ok {L K : List Int} {B : Int} (hl : L.length = K.length) (hlen : L.length ≤ 65536) (hB : -1099511627776 ≤ B ∧ B ≤ 16777216) (hL : ∀ l ∈ L, plitB l = true) (hK : ∀ j, j < L.length → 0 ≤ ix K j ∧ ix K j ≤ 16777216) :
    normP L K B = ((normP L K B).1, 0) := by
  have hp : allR L.length (pokAt L K) = true := allR_true fun j hj => by
    unfold pokAt
    rw [hL _ (ix_mem hj), decide_eq_true (by have := hK j hj; omega)]
    rfl
  have hne : ∀ j, j < L.length → ix L j ≠ 0 := fun j hj => by
    have := hL _ (ix_mem hj)
    unfold plitB at this
    rw [decide_eq_true_eq] at this
    exact this.1
  have hbd : B - negTo L K L.length - sumI (fun v => lowI (byTo L K v L.length)) (keysOf L) ≤ 16777216 := by
    obtain ⟨t, ht⟩ : ∃ t : Int → Bool, t = fun l => if 0 < l then decide (byTo L K l L.length < 0) else !decide (byTo L K (-l) L.length < 0) := ⟨_, rfl⟩
    have htot : Tot t := fun l hl => by
      rw [ht]
      dsimp only
      rcases Int.lt_or_gt_of_ne hl with h | h
      · rw [if_pos (by omega), if_neg (by omega), Bool.not_not]
      · rw [if_neg (by omega), if_pos h, Int.neg_neg]
    have h1 := sum_vars htot (L := L) (K := K) (sorted_nodup (keys_sorted L)) (keys_pos hne) L.length fun j hj => ⟨hne j hj, mem_keys.2 ⟨_, ix_mem hj, rfl⟩⟩
    have h2 := sumLK_nonneg (t := t) (L := L) (K := K) L.length fun j hj => (hK j hj).1
    have h3 : sumI (fun v => if t v then byTo L K v L.length else 0) (keysOf L) = sumI (fun v => lowI (byTo L K v L.length)) (keysOf L) := sumI_congr fun v hv => by
      have hv := keys_pos hne v hv
      have e : t v = decide (byTo L K v L.length < 0) := by rw [ht]; exact if_pos hv
      rw [e]
      unfold lowI
      by_cases h : byTo L K v L.length < 0 <;> simp [h]
    rw [h3] at h1
    omega
  have h0 : (normP L K B).2 = 0 := by
    unfold normP
    rw [if_neg (by omega), if_neg (by rw [hp]; simp)]
    generalize B - negTo L K L.length - sumI (fun v => lowI (byTo L K v L.length)) (keysOf L) = bd at *
    unfold normC
    split
    · rfl
    split
    · rfl
    · rw [if_neg (by omega)]
  exact Prod.ext rfl h0

/-! ### A rule -/
/-- The body is true. -/
def bodyTT (t : Int → Bool) (r : GR) : Bool := if r.sum then decide (r.bound ≤ sumLK t r.body r.w r.body.length) else allR r.body.length (fun j => t (ix r.body j))

/-- A rule as valid programs have it. -/
structure RuleV (r : GR) (n : Int) : Prop where
  rng : 0 ≤ n ∧ n ≤ 4000
  head : ∀ x ∈ r.head, 1 ≤ x ∧ x ≤ n
  body : ∀ x ∈ r.body, x ≠ 0 ∧ -n ≤ x ∧ x ≤ n
  len : r.body.length ≤ 8000 ∧ r.head.length ≤ 8000
  sum : r.sum = true → r.body.length = r.w.length ∧ (∀ j, j < r.w.length → 1 ≤ ix r.w j) ∧ sumTo r.w r.w.length ≤ 1048576 ∧ 0 ≤ r.bound ∧ r.bound ≤ 1048576

theorem sumTo_ge {K : List Int} (h : ∀ j, j < K.length → 1 ≤ ix K j) : ∀ (i : Nat), i ≤ K.length → 0 ≤ sumTo K i ∧ ∀ j, j < i → ix K j ≤ sumTo K i
  | 0, _ => ⟨Int.le_refl _, fun j hj => absurd hj (Nat.not_lt_zero _)⟩
  | i + 1, hi => by
    obtain ⟨h1, h2⟩ := sumTo_ge h i (by omega)
    have h3 := h i (by omega)
    simp only [sumTo]
    refine ⟨by omega, fun j hj => ?_⟩
    by_cases e : j = i
    · subst e; omega
    · have := h2 j (by omega); omega

section
variable {r : GR} {n b : Int}

theorem plit_of {x : Int} (h0 : x ≠ 0) (h1 : -65536 ≤ x ∧ x ≤ 65536) : plitB x = true := by
  unfold plitB
  rw [decide_eq_true_eq]
  exact ⟨h0, h1⟩

/-- A body variable. -/
def BVar (n b : Int) : Prop := n < b ∧ b ≤ 60000

theorem RuleV.plits (h : RuleV r n) (hb : BVar n b) : (∀ x ∈ r.body ++ [-b], plitB x = true) ∧ (∀ x ∈ negL r.body ++ [b], plitB x = true) ∧ (∀ x ∈ r.head ++ [-b], plitB x = true) ∧ ∀ x ∈ r.body, ∀ y ∈ [-b, x], plitB y = true := by
  have hn := h.rng
  obtain ⟨hb1, hb2⟩ := hb
  refine ⟨fun x hx => ?_, fun x hx => ?_, fun x hx => ?_, fun x hx y hy => ?_⟩
  · rcases List.mem_append.1 hx with hx | hx
    · have := h.body x hx; exact plit_of this.1 (by omega)
    · obtain rfl : x = -b := by simpa using hx
      exact plit_of (by omega) (by omega)
  · rcases List.mem_append.1 hx with hx | hx
    · unfold negL at hx
      obtain ⟨y, hy, rfl⟩ := List.mem_map.1 hx
      have := h.body y hy; exact plit_of (by omega) (by omega)
    · obtain rfl : x = b := by simpa using hx
      exact plit_of (by omega) (by omega)
  · rcases List.mem_append.1 hx with hx | hx
    · have := h.head x hx; exact plit_of (by omega) (by omega)
    · obtain rfl : x = -b := by simpa using hx
      exact plit_of (by omega) (by omega)
  · rcases List.mem_cons.1 hy with rfl | hy
    · exact plit_of (by omega) (by omega)
    · obtain rfl : y = x := by simpa using hy
      have := h.body y hx; exact plit_of this.1 (by omega)

theorem clauseP_fine {L : List Int} (hl : ∀ l ∈ L, plitB l = true) (hlen : L.length ≤ 65536) : clauseP L = ((clauseP L).1, 0) := Prod.ext rfl (clauseP_ok hl (by
  have : (setL L).length ≤ L.length := by
    clear hl hlen
    induction L with
    | nil => simp [setL]
    | cons x l ih =>
      have h2 : ∀ (v : Int) (l : List Int), (insK v l).length ≤ l.length + 1 := fun v l => by
        induction l with
        | nil => simp [insK]
        | cons y l ih =>
          unfold insK
          split
          · simp
          · split
            · simp
            · simp only [List.length_cons]; omega
      have := h2 x (setL l)
      show (insK x (setL l)).length ≤ _
      simp only [List.length_cons]
      omega
  omega))

theorem clause_sat {t : Int → Bool} (ht : Tot t) {L : List Int} (hl : ∀ l ∈ L, plitB l = true) (hlen : L.length ≤ 65536) : satC t (clauseP L).1 = true ↔ ∃ l ∈ L, t l = true := clauseP_sat ht (clauseP_fine hl hlen)

theorem RuleV.sum1 (h : RuleV r n) (hb : BVar n b) (hs : r.sum = true) : normP (r.body ++ [-b]) (r.w ++ [r.bound]) r.bound = ((normP (r.body ++ [-b]) (r.w ++ [r.bound]) r.bound).1, 0) := by
  obtain ⟨h1, h2, h3, h4, h5⟩ := h.sum hs
  have hl := h.len
  refine normP_ok (by simp [h1]) (by simp; omega) (by omega) (h.plits hb).1 fun j hj => ?_
  simp only [List.length_append, List.length_singleton] at hj
  by_cases e : j < r.w.length
  · rw [ix_lft e]
    have := h2 j e
    have := (sumTo_ge h2 r.w.length (Nat.le_refl _)).2 j e
    omega
  · obtain rfl : j = r.w.length := by omega
    rw [ix_end]
    omega

theorem RuleV.sum2 (h : RuleV r n) (hb : BVar n b) (hs : r.sum = true) : normP (negL r.body ++ [b]) (r.w ++ [max (restI r) 0]) (restI r) = ((normP (negL r.body ++ [b]) (r.w ++ [max (restI r) 0]) (restI r)).1, 0) := by
  obtain ⟨h1, h2, h3, h4, h5⟩ := h.sum hs
  have hl := h.len
  have h0 := (sumTo_ge h2 r.w.length (Nat.le_refl _)).1
  have hr : -1048576 ≤ restI r ∧ restI r ≤ 1048577 := by unfold restI; omega
  refine normP_ok (by simp [h1, negL_len]) (by simp [negL_len]; omega) (by omega) (h.plits hb).2.1 fun j hj => ?_
  simp only [List.length_append, List.length_singleton, negL_len] at hj
  by_cases e : j < r.w.length
  · rw [ix_lft e]
    have := h2 j e
    have := (sumTo_ge h2 r.w.length (Nat.le_refl _)).2 j e
    omega
  · obtain rfl : j = r.w.length := by omega
    rw [ix_end]
    omega

/-- The constraints of a rule: the body variable is the body; a head is met. -/
theorem RuleV.compH_sat (h : RuleV r n) (hb : BVar n b) {t : Int → Bool} (ht : Tot t) : (∀ c ∈ compH r b, satC t c = true) ↔ t b = bodyTT t r := by
  have hn := h.rng
  have hb0 : b ≠ 0 := by have := hb.1; omega
  have hne : ∀ j, j < r.body.length → ix r.body j ≠ 0 := fun j hj => (h.body _ (ix_mem hj)).1
  have hl := h.len
  unfold compH bodyTT
  cases hs : r.sum with
  | true =>
    obtain ⟨h1, h2, h3, h4, h5⟩ := h.sum hs
    have e1 := normP_sat ht (h.sum1 hb hs)
    have e2 := normP_sat ht (h.sum2 hb hs)
    rw [sumLK_app (by omega), ht b hb0] at e1
    rw [sumLK_app (by rw [negL_len]; omega), negL_len, sumLK_neg ht _ (Nat.le_refl _) hne] at e2
    have h6 := sumLK_nonneg (t := t) (L := r.body) (K := r.w) r.body.length fun j hj => by have := h2 j (by omega); omega
    have h7 := sumLK_le (t := t) (L := r.body) (K := r.w) r.body.length fun j hj => by have := h2 j (by omega); omega
    have hr : restI r = 1 - r.bound + sumTo r.w r.body.length := by unfold restI; rw [h1]
    rw [hr] at e2
    simp only [if_true, List.mem_cons, List.not_mem_nil, or_false, forall_eq_or_imp, forall_eq, e1, hr, e2]
    cases t b <;> simp <;> omega
  | false =>
    simp only [Bool.false_eq_true, if_false, List.mem_append, List.mem_map, List.mem_singleton]
    have e2 := clause_sat ht (h.plits hb).2.1 (by simp [negL_len]; omega)
    have e1 := fun l hl => clause_sat ht ((h.plits hb).2.2.2 l hl) (by simp)
    constructor
    · intro hc
      have c2 := e2.1 (hc _ (.inr rfl))
      have c1 := fun l hl => (e1 l hl).1 (hc _ (.inl ⟨l, hl, rfl⟩))
      cases hbt : t b with
      | true =>
        refine (allR_true fun j hj => ?_).symm
        obtain ⟨x, hx, e⟩ := c1 _ (ix_mem hj)
        rcases List.mem_cons.1 hx with rfl | hx
        · rw [ht b hb0, hbt] at e; cases e
        · obtain rfl : x = ix r.body j := by simpa using hx
          exact e
      | false =>
        obtain ⟨x, hx, e⟩ := c2
        rcases List.mem_append.1 hx with hx | hx
        · unfold negL at hx
          obtain ⟨y, hy, rfl⟩ := List.mem_map.1 hx
          rw [ht y (h.body y hy).1] at e
          obtain ⟨j, hj, rfl⟩ := mem_ix.1 hy
          refine (allR_false j hj ?_).symm
          simpa using e
        · obtain rfl : x = b := by simpa using hx
          rw [hbt] at e; cases e
    · rintro hbt c (⟨l, hl, rfl⟩ | rfl)
      · refine (e1 l hl).2 ?_
        cases hbb : t b with
        | true =>
          rw [hbb] at hbt
          obtain ⟨j, hj, rfl⟩ := mem_ix.1 hl
          exact ⟨_, by simp, allR_get hbt.symm j hj⟩
        | false => exact ⟨-b, by simp, by rw [ht b hb0, hbb]; rfl⟩
      · refine e2.2 ?_
        cases hbb : t b with
        | true => exact ⟨b, by simp, hbb⟩
        | false =>
          rw [hbb] at hbt
          have : ∃ j, j < r.body.length ∧ t (ix r.body j) = false := by
            apply Classical.byContradiction
            intro hno
            rw [allR_true fun j hj => by
              cases e : t (ix r.body j) with
              | true => rfl
              | false => exact (hno ⟨j, hj, e⟩).elim] at hbt
            cases hbt
          obtain ⟨j, hj, e⟩ := this
          exact ⟨-(ix r.body j), List.mem_append_left _ (List.mem_map.2 ⟨_, ix_mem hj, rfl⟩), by rw [ht _ (hne j hj), e]; rfl⟩

theorem RuleV.comp_sat (h : RuleV r n) (hb : BVar n b) {t : Int → Bool} (ht : Tot t) : (∀ c ∈ compR r b, satC t c = true) ↔ t b = bodyTT t r ∧ (r.choice = false → t b = true → ∃ x ∈ r.head, t x = true) := by
  have hn := h.rng
  have hb0 : b ≠ 0 := by have := hb.1; omega
  have e3 := clause_sat ht (h.plits hb).2.2.1 (by have := h.len; simp; omega)
  have e4 : (∃ l ∈ r.head ++ [-b], t l = true) ↔ (t b = true → ∃ x ∈ r.head, t x = true) := by
    constructor
    · rintro ⟨l, hl, e⟩ hbt
      rcases List.mem_append.1 hl with hl | hl
      · exact ⟨l, hl, e⟩
      · obtain rfl : l = -b := by simpa using hl
        rw [ht b hb0, hbt] at e; cases e
    · intro hi
      cases hbt : t b with
      | true => obtain ⟨x, hx, e⟩ := hi hbt; exact ⟨x, List.mem_append_left _ hx, e⟩
      | false => exact ⟨-b, by simp, by rw [ht b hb0, hbt]; rfl⟩
  unfold compR
  simp only [List.mem_append]
  constructor
  · intro hc
    refine ⟨(h.compH_sat hb ht).1 fun c hm => hc c (.inl hm), fun hch => e4.1 (e3.1 (hc _ (.inr (by rw [hch]; simp))))⟩
  · rintro ⟨h1, h2⟩ c (hm | hm)
    · exact (h.compH_sat hb ht).2 h1 c hm
    · cases hch : r.choice with
      | true => rw [hch] at hm; simp at hm
      | false =>
        rw [hch] at hm
        obtain rfl : c = _ := by simpa using hm
        exact e3.2 (e4.2 (h2 hch))
end

/-! ### The program -/
theorem mem_compTo {p : GP} {c : PBC} : ∀ k, c ∈ compTo p k ↔ ∃ i, i < k ∧ c ∈ compR (ixR p.rules i) (p.n + 1 + i)
  | 0 => by simp [compTo]
  | k + 1 => by
    rw [compTo, List.mem_append, mem_compTo k]
    constructor
    · rintro (⟨i, hi, h⟩ | h)
      · exact ⟨i, by omega, h⟩
      · exact ⟨k, by omega, h⟩
    · rintro ⟨i, hi, h⟩
      by_cases e : i = k
      · subst e; exact .inr h
      · exact .inl ⟨i, by omega, h⟩

theorem mem_atomTo {p : GP} {c : PBC} : ∀ k, c ∈ atomTo p k ↔ ∃ i, i < k ∧ c = atomC p ((i : Int) + 1)
  | 0 => by simp [atomTo]
  | k + 1 => by
    rw [atomTo, List.mem_append, mem_atomTo k]
    constructor
    · rintro (⟨i, hi, h⟩ | h)
      · exact ⟨i, by omega, h⟩
      · exact ⟨k, by omega, by simpa using h⟩
    · rintro ⟨i, hi, h⟩
      by_cases e : i = k
      · subst e; exact .inr (by simpa using h)
      · exact .inl ⟨i, by omega, h⟩

theorem mem_supAt {p : GP} {a x : Int} : ∀ k, x ∈ supAt' p a k ↔ ∃ i : Nat, i < k ∧ a ∈ (ixR p.rules i).head ∧ x = p.n + 1 + i
  | 0 => by simp [supAt']
  | k + 1 => by
    rw [supAt', List.mem_append, mem_supAt k]
    constructor
    · rintro (⟨i, hi, h⟩ | h)
      · exact ⟨i, by omega, h⟩
      · split at h
        · rename_i hm; exact ⟨k, by omega, hm, by simpa using h⟩
        · simp at h
    · rintro ⟨i, hi, h⟩
      by_cases e : i = k
      · subst e; exact .inr (by rw [if_pos h.1]; simpa using h.2)
      · exact .inl ⟨i, by omega, h⟩

theorem supAt_len (p : GP) (a : Int) : ∀ k, (supAt' p a k).length ≤ k
  | 0 => by simp [supAt']
  | k + 1 => by
    have := supAt_len p a k
    rw [supAt', List.length_append]
    split <;> simp <;> omega

structure CompV (p : GP) : Prop where
  n : 0 ≤ p.n ∧ p.n ≤ 4000
  rules : p.rules.length ≤ 40000
  rule : ∀ i, i < p.rules.length → RuleV (ixR p.rules i) p.n

theorem CompV.bvar {p : GP} (h : CompV p) {i : Nat} (hi : i < p.rules.length) : BVar p.n (p.n + 1 + i) := by
  have h1 := h.n
  have h2 := h.rules
  exact ⟨by omega, by omega⟩

theorem CompV.atom_lits {p : GP} (h : CompV p) {a : Int} (ha : 1 ≤ a ∧ a ≤ p.n) : (∀ x ∈ supAt' p a p.rules.length ++ [-a], plitB x = true) ∧ (supAt' p a p.rules.length ++ [-a]).length ≤ 65536 := by
  have h1 := h.n
  have h2 := h.rules
  have h3 := supAt_len p a p.rules.length
  refine ⟨fun x hx => ?_, by simp; omega⟩
  rcases List.mem_append.1 hx with hx | hx
  · obtain ⟨i, hi, -, rfl⟩ := (mem_supAt _).1 hx
    exact plit_of (by omega) (by omega)
  · obtain rfl : x = -a := by simpa using hx
    exact plit_of (by omega) (by omega)

/-- What the completion says of a truth of its variables. -/
structure CompT (p : GP) (t : Int → Bool) : Prop where
  body : ∀ i : Nat, i < p.rules.length → t (p.n + 1 + i) = bodyTT t (ixR p.rules i)
  head : ∀ i : Nat, i < p.rules.length → (ixR p.rules i).choice = false → t (p.n + 1 + i) = true → ∃ x ∈ (ixR p.rules i).head, t x = true
  supp : ∀ a : Int, 1 ≤ a → a ≤ p.n → t a = true → ∃ i : Nat, i < p.rules.length ∧ a ∈ (ixR p.rules i).head ∧ t (p.n + 1 + i) = true

theorem CompV.sat {p : GP} (h : CompV p) {t : Int → Bool} (ht : Tot t) : (∀ c ∈ compL p, satC t c = true) ↔ CompT p t := by
  have hat : ∀ a : Int, 1 ≤ a → a ≤ p.n → (satC t (atomC p a) = true ↔ (t a = true → ∃ i : Nat, i < p.rules.length ∧ a ∈ (ixR p.rules i).head ∧ t (p.n + 1 + i) = true)) := fun a h1 h2 => by
    obtain ⟨g1, g2⟩ := h.atom_lits ⟨h1, h2⟩
    unfold atomC
    rw [clause_sat ht g1 g2]
    constructor
    · rintro ⟨l, hl, e⟩ hta
      rcases List.mem_append.1 hl with hl | hl
      · obtain ⟨i, hi, hm, rfl⟩ := (mem_supAt _).1 hl
        exact ⟨i, hi, hm, e⟩
      · obtain rfl : l = -a := by simpa using hl
        rw [ht a (by omega), hta] at e; cases e
    · intro hi
      cases hta : t a with
      | true => obtain ⟨i, h3, h4, h5⟩ := hi hta; exact ⟨_, List.mem_append_left _ ((mem_supAt _).2 ⟨i, h3, h4, rfl⟩), h5⟩
      | false => exact ⟨-a, by simp, by rw [ht a (by omega), hta]; rfl⟩
  unfold compL
  simp only [List.mem_append]
  constructor
  · intro hc
    have hr := fun i (hi : i < p.rules.length) => ((h.rule i hi).comp_sat (h.bvar hi) ht).1 fun c hm => hc c (.inl ((mem_compTo _).2 ⟨i, hi, hm⟩))
    refine ⟨fun i hi => (hr i hi).1, fun i hi => (hr i hi).2, fun a h1 h2 => (hat a h1 h2).1 (hc _ (.inr ((mem_atomTo _).2 ⟨(a - 1).toNat, by omega, ?_⟩)))⟩
    rw [show (((a - 1).toNat : Nat) : Int) + 1 = a by omega]
  · rintro ⟨h1, h2, h3⟩ c (hm | hm)
    · obtain ⟨i, hi, hm⟩ := (mem_compTo _).1 hm
      exact ((h.rule i hi).comp_sat (h.bvar hi) ht).2 ⟨h1 i hi, h2 i hi⟩ c hm
    · obtain ⟨i, hi, rfl⟩ := (mem_atomTo _).1 hm
      exact (hat _ (by omega) (by omega)).2 (h3 _ (by omega) (by omega))

/-! ### Normal forms over the variables -/
theorem CompV.fine {p : GP} (h : CompV p) : ∀ c ∈ compL p, pbV c = true ∧ ∀ x ∈ c.lits, (x.natAbs : Int) ≤ p.n + p.rules.length := by
  have hcl : ∀ (L : List Int), (∀ l ∈ L, plitB l = true) → L.length ≤ 65536 → (∀ l ∈ L, (l.natAbs : Int) ≤ p.n + p.rules.length) → pbV (clauseP L).1 = true ∧ ∀ x ∈ (clauseP L).1.lits, (x.natAbs : Int) ≤ p.n + p.rules.length := fun L h1 h2 h3 => by
    have e := clauseP_fine h1 h2
    refine ⟨normP_valid (show normP (setL L) (ones (setL L).length) 1 = _ from e), fun x hx => ?_⟩
    obtain ⟨l, hl, e2⟩ := normP_vars (show normP (setL L) (ones (setL L).length) 1 = _ from e) x hx
    rw [← e2]
    exact h3 l (mem_setL.1 hl)
  have hno : ∀ (L K : List Int) (B : Int), normP L K B = ((normP L K B).1, 0) → (∀ l ∈ L, (l.natAbs : Int) ≤ p.n + p.rules.length) → pbV (normP L K B).1 = true ∧ ∀ x ∈ (normP L K B).1.lits, (x.natAbs : Int) ≤ p.n + p.rules.length := fun L K B e h3 => by
    refine ⟨normP_valid e, fun x hx => ?_⟩
    obtain ⟨l, hl, e2⟩ := normP_vars e x hx
    rw [← e2]
    exact h3 l hl
  intro c hc
  have hn := h.n
  rcases List.mem_append.1 hc with hm | hm
  · obtain ⟨i, hi, hm⟩ := (mem_compTo _).1 hm
    have hr := h.rule i hi
    have hb := h.bvar hi
    obtain ⟨p1, p2, p3, p4⟩ := hr.plits hb
    have hlen := hr.len
    have b1 : ∀ x ∈ (ixR p.rules i).body ++ [-(p.n + 1 + (i : Int))], (x.natAbs : Int) ≤ p.n + p.rules.length := fun x hx => by
      rcases List.mem_append.1 hx with hx | hx
      · have := hr.body x hx; omega
      · obtain rfl : x = _ := by simpa using hx
        omega
    have b2 : ∀ x ∈ negL (ixR p.rules i).body ++ [p.n + 1 + (i : Int)], (x.natAbs : Int) ≤ p.n + p.rules.length := fun x hx => by
      rcases List.mem_append.1 hx with hx | hx
      · unfold negL at hx
        obtain ⟨y, hy, rfl⟩ := List.mem_map.1 hx
        have := hr.body y hy; omega
      · obtain rfl : x = _ := by simpa using hx
        omega
    rcases List.mem_append.1 hm with hm | hm
    · unfold compH at hm
      split at hm
      · rename_i hs
        rcases List.mem_cons.1 hm with rfl | hm
        · exact hno _ _ _ (hr.sum1 hb hs) b1
        · obtain rfl : c = _ := by simpa using hm
          exact hno _ _ _ (hr.sum2 hb hs) b2
      · rcases List.mem_append.1 hm with hm | hm
        · obtain ⟨l, hl, rfl⟩ := List.mem_map.1 hm
          refine hcl _ (p4 l hl) (by simp) fun x hx => ?_
          rcases List.mem_cons.1 hx with rfl | hx
          · omega
          · obtain rfl : x = l := by simpa using hx
            have := hr.body x hl; omega
        · obtain rfl : c = _ := by simpa using hm
          exact hcl _ p2 (by simp [negL_len]; omega) b2
    · split at hm
      · simp at hm
      · obtain rfl : c = _ := by simpa using hm
        refine hcl _ p3 (by simp; omega) fun x hx => ?_
        rcases List.mem_append.1 hx with hx | hx
        · have := hr.head x hx; omega
        · obtain rfl : x = _ := by simpa using hx
          omega
  · obtain ⟨i, hi, rfl⟩ := (mem_atomTo _).1 hm
    obtain ⟨g1, g2⟩ := h.atom_lits (a := (i : Int) + 1) (by omega)
    refine hcl _ g1 g2 fun x hx => ?_
    rcases List.mem_append.1 hx with hx | hx
    · obtain ⟨j, hj, -, rfl⟩ := (mem_supAt _).1 hx
      omega
    · obtain rfl : x = -((i : Int) + 1) := by simpa using hx
      omega

/-! ### The number of constraints -/
def compN (r : GR) : Nat := (if r.sum then 2 else r.body.length + 1) + (if r.choice then 0 else 1)
def compNs (p : GP) : Nat → Nat
  | 0 => 0
  | k + 1 => compNs p k + compN (ixR p.rules k)

theorem compR_len (r : GR) (b : Int) : (compR r b).length = compN r := by
  unfold compR compH compN
  rw [List.length_append]
  cases r.sum <;> cases r.choice <;> simp
theorem compTo_len (p : GP) : ∀ k, (compTo p k).length = compNs p k
  | 0 => rfl
  | k + 1 => by rw [compTo, List.length_append, compTo_len p k, compR_len, compNs]
theorem atomTo_len (p : GP) : ∀ k, (atomTo p k).length = k
  | 0 => rfl
  | k + 1 => by rw [atomTo, List.length_append, atomTo_len p k]; rfl
theorem compL_len (p : GP) : (compL p).length = compNs p p.rules.length + p.n.toNat := by
  unfold compL
  rw [List.length_append, compTo_len, atomTo_len]

end Go.Proofs.YthclpkhaenaknaaGreatDoor

/- Rows of constraints of the call's own; what turns where one is pushed; a map of rows of ints. -/
namespace Go.Proofs.YthclpkhaenaknaaGreatDoor
open Go.RowKit

/-- A constraint with its slices. -/
abbrev CQ := PBC × Value × Value
def cells3 (q : CQ) : List Value := [q.2.1, q.2.2, .int .i64 q.1.bound]
def ixC (l : List PBC) (i : Nat) : PBC := l.getD i default

def pbCell (c : PBC) (vl vk : Value) : Nat → Value
  | 0 => vl
  | 1 => vk
  | _ => .int .i64 c.bound

structure PBSl (w : World) (c : PBC) (vl vk : Value) : Prop where
  lits : Ints w vl c.lits
  coefs : Ints w vk c.coefs
  bound : InI c.bound

theorem PBSl.below {w w' : World} {c : PBC} {vl vk : Value} (h : PBSl w c vl vk) (hb : Below w.heap.size w w') : PBSl w' c vl vk := ⟨h.lits.below hb, h.coefs.below hb, h.bound⟩
theorem PBSl.is {w : World} {c : PBC} {vl vk : Value} (h : PBSl w c vl vk) : PBIs w (.agg #[vl, vk, .int .i64 c.bound]) c := ⟨_, _, rfl, h.lits, h.coefs, h.bound⟩

/-- A slice of constraints reads as a list. -/
def PBsIs (w : World) (v : Value) (l : List PBC) : Prop :=
  ∃ vl vk : Nat → Value, Rows w v 3 56 l.length (fun i => pbCell (ixC l i) (vl i) (vk i)) ∧ ∀ i, i < l.length → PBSl w (ixC l i) (vl i) (vk i)

theorem PBsIs.below {w w' : World} {v : Value} {l : List PBC} (h : PBsIs w v l) (hb : Below w.heap.size w w') : PBsIs w' v l :=
  let ⟨vl, vk, e, h1⟩ := h; ⟨vl, vk, e.below hb, fun i hi => (h1 i hi).below hb⟩

def PBCells (w : World) (b o : Nat) (c : PBC) (vl vk : Value) : Prop :=
  w.cell? ⟨b, o, none⟩ = some vl ∧ w.cell? ⟨b, o + 1, none⟩ = some vk ∧ w.cell? ⟨b, o + 2, none⟩ = some (.int .i64 c.bound)

theorem PBCells.below {w w' : World} {b o : Nat} {c : PBC} {vl vk : Value} (h : PBCells w b o c vl vk) (hb : Below w.heap.size w w') (hl : b < w.heap.size) : PBCells w' b o c vl vk :=
  ⟨(bcell hb _ _ hl).trans h.1, (bcell hb _ _ hl).trans h.2.1, (bcell hb _ _ hl).trans h.2.2⟩

theorem PBsIs.form {w : World} {v : Value} {l : List PBC} (h : PBsIs w v l) : ∃ a cap, v = .slice a l.length cap ∧ l.length ≤ cap ∧ l.length ≤ 1000000000000000 ∧ PBsIs w (.slice a l.length cap) l ∧
    (0 < l.length → ∃ b off, a = some ⟨b, off, none⟩ ∧ b < w.heap.size ∧ ∀ i, i < l.length → ∃ vl vk, PBCells w b (off + i * 3) (ixC l i) vl vk ∧ PBSl w (ixC l i) vl vk) := by
  have h0 := h
  obtain ⟨vl, vk, ⟨a, cap, rfl, h1, hm, h2, h3⟩, h4⟩ := h
  refine ⟨a, cap, rfl, h1, by omega, h0, fun hp => ?_⟩
  obtain ⟨b, off, e, hl, hc⟩ := h3 hp
  exact ⟨b, off, e, hl, fun i hi => ⟨vl i, vk i, ⟨hc i hi 0 (by omega), hc i hi 1 (by omega), hc i hi 2 (by omega)⟩, h4 i hi⟩⟩

theorem nil_pbs (w : World) : PBsIs w (.slice none 0 0) [] := ⟨fun _ => undef, fun _ => undef, ⟨none, 0, rfl, Nat.le_refl _, by unfold maxLen; omega, by simp, fun h => absurd h (by simp)⟩, fun i hi => absurd hi (by simp)⟩

/-! ### What turns -/
/-- A block of constraints, or a box of a slice of them. -/
def isC (w : World) (i : Nat) : Prop := ∃ c fz, w.heap[i]? = some (.cells c 55 fz) ∨ w.heap[i]? = some (.cells c 30 fz)

/-- From w to w' nothing but heap has turned; of what was there at most blocks of constraints from B on. -/
structure CLim (B : Nat) (w w' : World) : Prop where
  os : w'.os = w.os
  tape : w'.tape = w.tape
  output : w'.output = w.output
  size : w.heap.size ≤ w'.heap.size
  block : ∀ i, i < w.heap.size → (B ≤ i → ¬ isC w i) → w'.heap[i]? = w.heap[i]?

theorem CLim.trans {B : Nat} {a b c : World} (h : CLim B a b) (k : CLim B b c) : CLim B a c :=
  ⟨k.os.trans h.os, k.tape.trans h.tape, k.output.trans h.output, Nat.le_trans h.size k.size, fun i hi hn => by
    have e := h.block i hi hn
    refine (k.block i (Nat.lt_of_lt_of_le hi h.size) fun hB hc => hn hB ?_).trans e
    obtain ⟨c, fz, hc⟩ := hc
    rw [e] at hc
    exact ⟨c, fz, hc⟩⟩
theorem CLim.of_below {B : Nat} {w w' : World} (h : Below w.heap.size w w') : CLim B w w' := ⟨h.os, h.tape, h.output, h.size, fun i hi _ => h.block i hi⟩
theorem CLim.below {B : Nat} {w w' : World} (h : CLim B w w') (hB : B ≤ w.heap.size) : Below B w w' := ⟨h.os, h.tape, h.output, h.size, fun i hi => h.block i (by omega) fun h' => absurd hi (by omega)⟩
theorem CLim.blk {B : Nat} {w w' : World} (h : CLim B w w') {b : Nat} {c : List Value} {T : TypeId} (hb : Blk w b c T) (h1 : T ≠ 55) (h2 : T ≠ 30) : Blk w' b c T :=
  hb.same (h.block b hb.lt fun _ hc => by
    obtain ⟨c', fz, hc⟩ := hc
    unfold Blk at hb
    rw [hb] at hc
    rcases hc with hc | hc
    · injection hc with hc; injection hc with _ e _; exact h1 e
    · injection hc with hc; injection hc with _ e _; exact h2 e)
theorem CLim.qrow {B base : Nat} {w w' : World} (h : CLim B w w') {v : Value} {l : List Int} (hq : QRow base w v l) : QRow base w' v l :=
  hq.kept fun i _ hi hv => h.block i hi fun _ hc => by
    obtain ⟨c', fz, hc⟩ := hc
    rcases hq.2 with ⟨rfl, _⟩ | ⟨g, off, cap, cur, rfl, _, hg, _⟩
    · cases hv
    · have : g = i := by simpa [Value.ownBlock] using hv
      subst this
      rw [hg] at hc
      rcases hc with hc | hc
      · injection hc with hc; injection hc with _ e _; revert e; decide
      · injection hc with hc; injection hc with _ e _; revert e; decide
theorem CLim.map {B b : Nat} {w w' : World} (h : CLim B w w') {kv : Int → Value} {g : Int → Option Value} (hm : MapIs kv w b g) : MapIs kv w' b g :=
  hm.same (h.block b hm.lt fun _ hc => by
    obtain ⟨c', fz, hc⟩ := hc
    obtain ⟨es, clock, e, -⟩ := hm
    rw [e] at hc
    rcases hc with hc | hc <;> (injection hc with hc; cases hc))

/-! ### A row of constraints of the call's own -/
structure MineC (B : Nat) (v : Value) (L : List CQ) (w : World) : Prop where
  row : w.ownsRow B 30 3 v L.length (L.flatMap cells3)
  each : ∀ q ∈ L, QRow B w q.2.1 q.1.lits ∧ QRow B w q.2.2 q.1.coefs ∧ InI q.1.bound ∧ q.1.lits.length ≤ 65536 ∧ q.1.coefs.length ≤ 65536

theorem MineC.nil (B : Nat) (w : World) : MineC B (.slice none 0 0) [] w := ⟨⟨by simp, .inl ⟨rfl, rfl⟩⟩, fun q hq => by simp at hq⟩

section
variable {B n : Nat} {xs : List Value} {v : Value} {w w' : World} {L : List CQ}

/-- The row of constraints may turn: a row of ints does not. -/
theorem QRow.rowKeptC {u : Value} {l : List Int} {base : Nat} (h : QRow base w u l) (hr : w.ownsRow B 30 3 v n xs) (hg : w.grownBy w' v.ownBlock) : QRow base w' u l := by
  refine h.kept fun i hi hi2 hu => hg.block i hi2 (fun e => ?_)
  rcases hr.2 with ⟨rfl, _⟩ | ⟨g, cap, cur, rfl, hb, hgg, _⟩
  · cases e
  · simp only [Value.ownBlock, Option.some.injEq] at e
    subst e
    rcases h.2 with ⟨rfl, _⟩ | ⟨g', off, cap', cur', rfl, _, hgg', _⟩
    · cases hu
    · simp only [Value.ownBlock, Option.some.injEq] at hu
      subst hu
      rw [hgg'] at hgg
      have := Option.some.inj hgg
      injection this with _ h2 _
      revert h2; decide

theorem MineC.below (h : MineC B v L w) (hb : Below w.heap.size w w') : MineC B v L w' :=
  ⟨rowBelow h.row hb, fun q hq => let ⟨h1, h2, h3⟩ := h.each q hq; ⟨h1.below hb, h2.below hb, h3⟩⟩

theorem MineC.push {g cap : Nat} {q : CQ} (h : MineC B v L w) (hq : QRow B w q.2.1 q.1.lits ∧ QRow B w q.2.2 q.1.coefs ∧ InI q.1.bound ∧ q.1.lits.length ≤ 65536 ∧ q.1.coefs.length ≤ 65536)
    (hown : w'.ownsRow B 30 3 (.slice (some ⟨g, 0, none⟩) (L.length + 1) cap) (L.length + 1) (L.flatMap cells3 ++ cells3 q)) (hg : w.grownBy w' v.ownBlock) : MineC B (.slice (some ⟨g, 0, none⟩) (L.length + 1) cap) (L ++ [q]) w' := by
  refine ⟨by simpa using hown, fun q' hq' => ?_⟩
  simp only [List.mem_append, List.mem_singleton] at hq'
  rcases hq' with hq' | rfl
  · obtain ⟨h1, h2, h3⟩ := h.each q' hq'
    exact ⟨h1.rowKeptC h.row hg, h2.rowKeptC h.row hg, h3⟩
  · obtain ⟨h1, h2, h3⟩ := hq
    exact ⟨h1.rowKeptC h.row hg, h2.rowKeptC h.row hg, h3⟩

theorem flat3 : ∀ (L : List CQ) (i j : Nat), i < L.length → j < 3 → (L.flatMap cells3)[i * 3 + j]? = (cells3 (L.getD i default))[j]?
  | [], i, j, h, _ => absurd h (by simp)
  | q :: L, 0, j, _, hj => by
    rw [List.flatMap_cons, List.getElem?_append_left (by simp [cells3]; omega)]
    simp
  | q :: L, i + 1, j, h, hj => by
    rw [List.flatMap_cons, List.getElem?_append_right (by simp [cells3]; omega)]
    have := flat3 L i j (by simpa using h) hj
    rw [show (i + 1) * 3 + j - (cells3 q).length = i * 3 + j by simp [cells3]; omega, this]
    simp

theorem MineC.pbs (h : MineC B v L w) (l : List PBC) (hl : L.map (·.1) = l) (hfit : L.length * 56 ≤ 140737488351232) : PBsIs w v l := by
  have hlen' : l.length = L.length := by rw [← hl]; simp
  have hq : ∀ i, i < l.length → L.getD i default ∈ L ∧ (L.getD i default).1 = ixC l i := fun i hi => by
    have hi' : i < L.length := by omega
    have e : L.getD i default = L[i] := by simp [List.getD_eq_getElem?_getD, List.getElem?_eq_getElem hi']
    rw [e]
    refine ⟨List.getElem_mem hi', ?_⟩
    subst hl
    simp [ixC, List.getD_eq_getElem?_getD, List.getElem?_eq_getElem hi']
  refine ⟨fun i => (L.getD i default).2.1, fun i => (L.getD i default).2.2, ?_, fun i hi => ?_⟩
  · rw [hlen']
    rcases h.row.2 with ⟨rfl, h0⟩ | ⟨g, cap, cur, rfl, hb, hg, hn, hm, hs, hx⟩
    · exact ⟨none, 0, by rw [h0], by omega, by unfold maxLen; omega, by omega, fun hp => by omega⟩
    · refine ⟨_, cap, rfl, hn, hm, hfit, fun _ => ⟨g, 0, rfl, (Array.getElem?_eq_some_iff.1 hg).1, fun i hi j hj => ?_⟩⟩
      have h6 := flat3 L i j hi hj
      rw [← hx, List.getElem?_take_of_lt (by omega)] at h6
      rw [cell_of_row w g (0 + i * 3 + j) cur _ (0, 0) hg, Nat.zero_add]
      have e2 := (hq i (by omega)).2
      dsimp only
      rw [← e2]
      have : cur[i * 3 + j]? = cur.toList[i * 3 + j]? := by simp
      rw [this, h6]
      rcases (show j = 0 ∨ j = 1 ∨ j = 2 by omega) with rfl | rfl | rfl <;> rfl
  · obtain ⟨hm, e⟩ := hq i hi
    obtain ⟨h1, h2, h3, h4, h5⟩ := h.each _ hm
    rw [← e]
    exact ⟨h1.ints (by omega), h2.ints (by omega), h3⟩
end

/-- The box of the constraints so far; their slices lie in none of the blocks of A. -/
def OutC (B ob : Nat) (A : Nat → Prop) (l : List PBC) (w : World) : Prop :=
  ∃ v L, Blk w ob [v] 55 ∧ MineC B v L w ∧ L.map (·.1) = l ∧ ∀ q ∈ L, ∀ g, (q.2.1.ownBlock = some g ∨ q.2.2.ownBlock = some g) → ¬ A g

theorem OutC.below {B ob : Nat} {A : Nat → Prop} {l : List PBC} {w w' : World} (h : OutC B ob A l w) (hb : Below w.heap.size w w') : OutC B ob A l w' :=
  let ⟨v, L, h1, h2, h3⟩ := h; ⟨v, L, h1.below hb, h2.below hb, h3⟩

/-! ### A map from ints to rows of ints -/
def rowV (G : Int → Option Value) (x : Int) : Value := (G x).getD (.slice none 0 0)

structure SupM (B mb : Nat) (F : Int → List Int) (G : Int → Option Value) (w : World) : Prop where
  map : MapIs (Value.int .i64) w mb G
  row : ∀ x, QRow B w (rowV G x) (F x)
  far : ∀ x y, x ≠ y → ∀ g, (rowV G x).ownBlock = some g → (rowV G y).ownBlock ≠ some g

theorem SupM.below {B mb : Nat} {F : Int → List Int} {G : Int → Option Value} {w w' : World} (h : SupM B mb F G w) (hb : Below w.heap.size w w') : SupM B mb F G w' := ⟨h.map.below hb, fun x => (h.row x).below hb, h.far⟩
theorem SupM.clim {B mb C : Nat} {F : Int → List Int} {G : Int → Option Value} {w w' : World} (h : SupM B mb F G w) (hb : CLim C w w') : SupM B mb F G w' := ⟨hb.map h.map, fun x => hb.qrow (h.row x), h.far⟩

def setL' (F : Int → List Int) (x : Int) (l : List Int) : Int → List Int := fun y => if y = x then l else F y

/-- One more in the row of x: the row has grown from w to w1, and is laid into the map. -/
theorem SupM.push {B mb : Nat} {F : Int → List Int} {G : Int → Option Value} {w w1 w2 : World} {x b : Int} {v' : Value} (h : SupM B mb F G w) (hq : QRow B w1 v' (F x ++ [b])) (hg : w.grownBy w1 (rowV G x).ownBlock) (ho : v'.ownBlock = (rowV G x).ownBlock ∨ v'.ownBlock = some w.heap.size)
    (hm : MapIs (Value.int .i64) w2 mb (upd G x (some v'))) (hg2 : w1.grownBy w2 (some mb)) (hm1 : MapIs (Value.int .i64) w1 mb G) : SupM B mb (setL' F x (F x ++ [b])) (upd G x (some v')) w2 := by
  have e1 : rowV (upd G x (some v')) x = v' := by unfold rowV; rw [upd_same]; rfl
  have e2 : ∀ y, y ≠ x → rowV (upd G x (some v')) y = rowV G y := fun y hy => by unfold rowV; rw [upd_other _ _ hy]
  have hkeep : ∀ (u : Value) (l : List Int), QRow B w1 u l → QRow B w2 u l := fun u l hu => hu.kept fun i _ hi hv => hg2.block i hi fun e => by
    obtain ⟨es, clock, em, -⟩ := hm1
    rcases hu.2 with ⟨rfl, _⟩ | ⟨g, off, cap, cur, rfl, _, hgg, _⟩
    · cases hv
    · have e3 : g = i := by simpa [Value.ownBlock] using hv
      have e4 : mb = i := by simpa using e.symm
      subst e3 e4
      rw [em] at hgg
      cases hgg
  refine ⟨hm, fun y => ?_, fun y z hyz g hy hz => ?_⟩
  · unfold setL'
    by_cases hy : y = x
    · subst hy
      rw [if_pos rfl, e1]
      exact hkeep _ _ hq
    · rw [if_neg hy, e2 y hy]
      refine hkeep _ _ ((h.row y).kept fun i _ hi hv => hg.block i hi fun e => h.far y x hy i hv e.symm)
  · have hlt : ∀ y g, (rowV G y).ownBlock = some g → g < w.heap.size := fun y g e => ((h.row y).base e).2
    by_cases h1 : y = x
    · subst h1
      have h2 : z ≠ y := fun e => hyz e.symm
      rw [e1] at hy
      rw [e2 z h2] at hz
      rcases ho with ho | ho
      · rw [ho] at hy
        exact h.far y z hyz g hy hz
      · rw [ho] at hy
        have := hlt z g hz
        have := Option.some.inj hy
        omega
    · rw [e2 y h1] at hy
      by_cases h2 : z = x
      · subst h2
        rw [e1] at hz
        rcases ho with ho | ho
        · rw [ho] at hz
          exact h.far y z hyz g hy hz
        · rw [ho] at hz
          have := hlt y g hy
          have := Option.some.inj hz
          omega
      · rw [e2 z h2] at hz
        exact h.far y z hyz g hy hz

/-- The blocks of the rows. -/
def supB (G : Int → Option Value) (g : Nat) : Prop := ∃ x, (rowV G x).ownBlock = some g

theorem SupM.inB {B mb : Nat} {F : Int → List Int} {G : Int → Option Value} {w : World} (h : SupM B mb F G w) : ∀ g, supB G g → g < w.heap.size := fun _ ⟨x, e⟩ => ((h.row x).base e).2

theorem SupM.map1 {B mb : Nat} {F : Int → List Int} {G : Int → Option Value} {w w1 : World} {x : Int} (h : SupM B mb F G w) (hg : w.grownBy w1 (rowV G x).ownBlock) : MapIs (Value.int .i64) w1 mb G :=
  h.map.same (hg.block mb h.map.lt fun e => by
    obtain ⟨es, clock, em, -⟩ := h.map
    rcases (h.row x).2 with ⟨e2, _⟩ | ⟨g, off, cap, cur, e2, _, hgg, _⟩
    · rw [e2] at e; cases e
    · rw [e2] at e
      have : mb = g := by simpa [Value.ownBlock] using e
      subst this
      rw [em] at hgg
      cases hgg)

/-- A block of other cells stays where a row of the map grows. -/
theorem SupM.blk1 {B mb : Nat} {F : Int → List Int} {G : Int → Option Value} {w w1 w2 : World} {x : Int} {b : Nat} {c : List Value} {T : TypeId} (h : SupM B mb F G w) (hg : w.grownBy w1 (rowV G x).ownBlock) (hg2 : w1.grownBy w2 (some mb)) (hb : Blk w b c T) (hT : T ≠ 3) : Blk w2 b c T := by
  have h1 : Blk w1 b c T := hb.same (hg.block b hb.lt fun e => (h.row x).far hb hT e.symm)
  refine h1.same (hg2.block b h1.lt fun e => ?_)
  obtain ⟨es, clock, em, -⟩ := h.map1 hg
  have : b = mb := by simpa using e
  subst this
  unfold Blk at h1
  rw [em] at h1
  cases h1

/-- The constraints stay. -/
theorem SupM.out1 {B mb ob : Nat} {F : Int → List Int} {G : Int → Option Value} {w w1 w2 : World} {x : Int} {v' : Value} {l : List PBC} (h : SupM B mb F G w) (hg : w.grownBy w1 (rowV G x).ownBlock) (hg2 : w1.grownBy w2 (some mb)) (ho : v'.ownBlock = (rowV G x).ownBlock ∨ v'.ownBlock = some w.heap.size)
    (hO : OutC B ob (supB G) l w) : OutC B ob (supB (upd G x (some v'))) l w2 := by
  obtain ⟨v, L, h1, h2, h3, h4⟩ := hO
  have hm1 := h.map1 hg
  have keep : ∀ i, i < w.heap.size → (rowV G x).ownBlock ≠ some i → (∃ c T fz, w.heap[i]? = some (.cells c T fz)) → w2.heap[i]? = w.heap[i]? := fun i hi hne ⟨c, T, fz, hc⟩ => by
    have e1 := hg.block i hi fun e => hne e.symm
    refine (hg2.block i (Nat.lt_of_lt_of_le hi hg.size) fun e => ?_).trans e1
    obtain ⟨es, clock, em, -⟩ := hm1
    have : i = mb := by simpa using e
    subst this
    rw [em] at e1
    rw [← e1] at hc
    cases hc
  have hq : ∀ (u : Value) (k : List Int), QRow B w u k → (∀ g, u.ownBlock = some g → ¬ supB G g) → QRow B w2 u k := fun u k hu hn => hu.kept fun i _ hi hv => by
    refine keep i hi (fun e => hn i hv ⟨x, e⟩) ?_
    rcases hu.2 with ⟨rfl, _⟩ | ⟨g, off, cap, cur, rfl, _, hgg, _⟩
    · cases hv
    · have : g = i := by simpa [Value.ownBlock] using hv
      subst this
      exact ⟨_, _, _, hgg⟩
  refine ⟨v, L, h.blk1 hg hg2 h1 (by decide), ⟨?_, fun q hq' => ?_⟩, h3, fun q hq' g hg' hA => ?_⟩
  · refine ⟨h2.row.1, ?_⟩
    rcases h2.row.2 with hn | ⟨g, cap, cur, e, hb, hgg, rest⟩
    · exact .inl hn
    · refine .inr ⟨g, cap, cur, e, hb, ?_, rest⟩
      rw [keep g (Array.getElem?_eq_some_iff.1 hgg).1 (fun e2 => ?_) ⟨_, _, _, hgg⟩]
      · exact hgg
      · rcases (h.row x).2 with ⟨e3, _⟩ | ⟨g', off, cap', cur', e3, _, hgg', _⟩
        · rw [e3] at e2; cases e2
        · rw [e3] at e2
          have : g' = g := by simpa [Value.ownBlock] using e2
          subst this
          rw [hgg'] at hgg
          have := Option.some.inj hgg
          injection this with _ h5 _
          revert h5; decide
  · obtain ⟨q1, q2, q3⟩ := h2.each q hq'
    exact ⟨hq _ _ q1 fun g e => h4 q hq' g (.inl e), hq _ _ q2 fun g e => h4 q hq' g (.inr e), q3⟩
  · obtain ⟨y, hy⟩ := hA
    have hlt : g < w.heap.size := by
      obtain ⟨q1, q2, -⟩ := h2.each q hq'
      rcases hg' with e | e
      · exact (q1.base e).2
      · exact (q2.base e).2
    by_cases e : y = x
    · subst e
      have e1 : rowV (upd G y (some v')) y = v' := by unfold rowV; rw [upd_same]; rfl
      rw [e1] at hy
      rcases ho with ho | ho
      · rw [ho] at hy
        exact h4 q hq' g hg' ⟨y, hy⟩
      · rw [ho] at hy
        have := Option.some.inj hy
        omega
    · have e2 : rowV (upd G x (some v')) y = rowV G y := by unfold rowV; rw [upd_other _ _ e]
      rw [e2] at hy
      exact h4 q hq' g hg' ⟨y, hy⟩

theorem OwnI.qrow {base : Nat} {w : World} {v : Value} {l : List Int} (h : OwnI base w v l) : QRow base w v l := by
  refine ⟨h.2, ?_⟩
  rcases h.1.1.2 with ⟨e, e0⟩ | ⟨g, cap, cur, e, hb, hg, hn, hm, hs, hx⟩
  · exact .inl ⟨e, List.eq_nil_of_length_eq_zero e0⟩
  · refine .inr ⟨g, 0, cap, cur, e, hb, hg, hn, hm, by omega, fun i hi => ?_⟩
    have h4 : (cur.toList.take (l.length * 1))[i]? = some (.int .i64 (ix l i)) := by rw [hx]; simp [hi]
    rw [List.getElem?_take_of_lt (by omega)] at h4
    simpa using h4

end Go.Proofs.YthclpkhaenaknaaGreatDoor

/- The completion of a valid program: bounds (plain). -/
namespace Go.Proofs.YthclpkhaenaknaaGreatDoor

theorem ordered_len {l : List Int} {n : Int} (h : orderedB l n = true) (hn : 0 ≤ n) : (l.length : Int) ≤ 2 * n := by
  have hp : (l.map litKey).Pairwise (· < ·) := by
    rw [List.pairwise_iff_getElem]
    intro i j hi hj hij
    simp only [List.length_map] at hi hj
    have := ordered_lt h j hj i hij
    simpa [ix, List.getD_eq_getElem?_getD, List.getElem?_eq_getElem hi, List.getElem?_eq_getElem hj] using this
  have := lt_length (l.map litKey) 2 (2 * n + 2) hp (fun x hx => by
    obtain ⟨y, hy, rfl⟩ := List.mem_map.1 hx
    have := ordered_lit h hy
    unfold litKey
    split <;> omega) (by omega)
  simp at this; omega

theorem inc_lt {l : List Int} {n : Int} (h : increasingB l n = true) {i j : Nat} (hj : j < l.length) (hij : i < j) : ix l i < ix l j := by
  have h1 := ordered_lt (increasing_ordered h) j hj i hij
  have h2 := inc_pos h hj
  have h3 := inc_pos h (show i < l.length by omega)
  unfold litKey at h1
  rw [if_pos (by omega), if_pos (by omega)] at h1
  omega

theorem compV_valid {p : GP} (hv : validE p = 0) : CompV p := by
  have hP := validP hv
  have hn := hP.n
  refine ⟨hP.n, hP.rules, fun i hi => ?_⟩
  have hR := ruleE_at hv hi
  have hh := hP.head i hi
  have hb := hP.body i hi
  have ho : orderedB (ixR p.rules i).head p.n = true := by unfold increasingB at hh; rw [Bool.and_eq_true] at hh; exact hh.1
  refine ⟨hP.n, fun x hx => ?_, fun x hx => ordered_lit hb hx, ⟨?_, ?_⟩, fun hs => ?_⟩
  · obtain ⟨j, hj, rfl⟩ := mem_ix.1 hx
    have := inc_pos hh hj
    omega
  · have := ordered_len hb hn.1; omega
  · have := ordered_len ho hn.1; omega
  · obtain ⟨h1, h2, h3⟩ := weights_sum (hP.sum i hi hs)
    refine ⟨by omega, h2, (h3 _ (Nat.le_refl _)).2, hP.bound i hi, ?_⟩
    unfold ruleE at hR
    split at hR
    · omega
    split at hR
    · omega
    split at hR
    · omega
    split at hR
    · omega
    · rename_i h
      exact Classical.byContradiction fun hc => h (.inr ⟨hs, .inr (.inr (by omega))⟩)

theorem sumTo_mono {K : List Int} (h : ∀ j, j < K.length → 1 ≤ ix K j) : ∀ (n i : Nat), i ≤ n → n ≤ K.length → sumTo K i ≤ sumTo K n
  | 0, i, hi, _ => by obtain rfl : i = 0 := by omega
                      exact Int.le_refl _
  | n + 1, i, hi, hn => by
    by_cases e : i = n + 1
    · subst e; exact Int.le_refl _
    · have := sumTo_mono h n i (by omega) (by omega)
      have := h n (by omega)
      simp only [sumTo] at *
      omega

theorem CompV.counts {p : GP} (h : CompV p) : ∀ k, k ≤ p.rules.length → compNs p k ≤ 8002 * k
  | 0, _ => by simp [compNs]
  | k + 1, hk => by
    have ih := h.counts k (by omega)
    have := (h.rule k (by omega)).len
    unfold compNs compN
    split <;> split <;> omega

theorem CompV.lenTo {p : GP} (h : CompV p) {k : Nat} (hk : k ≤ p.rules.length) : (compTo p k).length ≤ 400000000 := by
  have h1 := h.counts k hk
  have h2 := h.rules
  rw [compTo_len]
  omega

/-- The support of a, when the heads' first j atoms of rule k have been met. -/
def supIn (p : GP) (k j : Nat) (a : Int) : List Int := supAt' p a k ++ (if a ∈ (ixR p.rules k).head.take j then [p.n + 1 + k] else [])

theorem supIn_zero (p : GP) (k : Nat) : supIn p k 0 = fun a => supAt' p a k := by funext a; simp [supIn]
theorem supIn_all (p : GP) (k : Nat) : supIn p k (ixR p.rules k).head.length = fun a => supAt' p a (k + 1) := by funext a; simp [supIn, supAt']

theorem inc_nodup {l : List Int} {n : Int} (h : increasingB l n = true) {j : Nat} (hj : j < l.length) : ix l j ∉ l.take j := by
  intro hm
  obtain ⟨i, hi, e⟩ := mem_ix.1 hm
  rw [List.length_take] at hi
  have h1 := inc_lt h hj (show i < j by omega)
  have e2 : ix (l.take j) i = l[i]'(by omega) := by
    rw [ix_get (by rw [List.length_take]; omega)]
    exact List.getElem_take
  rw [e2, ← ix_get] at e
  omega

theorem supIn_next {p : GP} (hv : validE p = 0) {k j : Nat} (hk : k < p.rules.length) (hj : j < (ixR p.rules k).head.length) :
    supIn p k (j + 1) = setL' (supIn p k j) (ix (ixR p.rules k).head j) (supIn p k j (ix (ixR p.rules k).head j) ++ [p.n + 1 + k]) := by
  have hn := inc_nodup ((validP hv).head k hk) hj
  have ht : (ixR p.rules k).head.take (j + 1) = (ixR p.rules k).head.take j ++ [ix (ixR p.rules k).head j] := by
    rw [List.take_add_one, List.getElem?_eq_getElem hj, ix_get hj]; rfl
  funext a
  unfold setL' supIn
  rw [ht]
  by_cases e : a = ix (ixR p.rules k).head j
  · subst e
    rw [if_pos rfl, if_pos (by simp), if_neg hn, List.append_nil]
  · rw [if_neg e]
    have : (a ∈ (ixR p.rules k).head.take j ++ [ix (ixR p.rules k).head j]) ↔ a ∈ (ixR p.rules k).head.take j := by simp [e]
    simp only [this]

end Go.Proofs.YthclpkhaenaknaaGreatDoor

/- LoopsSupport's plain law: the support clause of an atom is a loop clause. -/
namespace Go.Proofs.YthclpkhaenaknaaGreatDoor

theorem atom_clash {p : GP} {u : Int} (hu : 1 ≤ u ∧ u ≤ p.n) : ¬ clash (supAt' p u p.rules.length ++ [-u]) := by
  rintro ⟨x, hx, hn⟩
  rcases List.mem_append.1 hx with hx | hx
  · obtain ⟨i, hi, -, rfl⟩ := (mem_supAt _).1 hx
    rcases List.mem_append.1 hn with hn | hn
    · obtain ⟨j, hj, -, e⟩ := (mem_supAt _).1 hn
      omega
    · have : -(p.n + 1 + (i : Int)) = -u := by simpa using hn
      omega
  · obtain rfl : x = -u := by simpa using hx
    rcases List.mem_append.1 hn with hn | hn
    · obtain ⟨j, hj, -, e⟩ := (mem_supAt _).1 hn
      omega
    · have : - -u = -u := by simpa using hn
      omega

theorem support_valid {p : GP} {u : Int} (hv : validE p = 0) (hu : 1 ≤ u ∧ u ≤ p.n) : validC p [u] (atomC p u) = true := by
  have hC := compV_valid hv
  obtain ⟨h1, h2⟩ := hC.atom_lits hu
  have hset : (setL (supAt' p u p.rules.length ++ [-u])).length ≤ 65536 := Nat.le_trans (setL_len _) h2
  have hb : (atomC p u).bound = 1 := (clauseP_bound h1 hset).1.2 (atom_clash hu)
  have hm : ∀ x, x ∈ (atomC p u).lits ↔ x ∈ supAt' p u p.rules.length ++ [-u] := clauseP_mem h1 hset hb
  have hpv : pbV (atomC p u) = true := normP_valid (show normP (setL (supAt' p u p.rules.length ++ [-u])) (ones (setL (supAt' p u p.rules.length ++ [-u])).length) 1 = _ from clauseP_fine h1 h2)
  have h3 : setB' p.n [u] = true := by
    unfold setB'
    rw [Bool.and_eq_true]
    refine ⟨allR_true fun j hj => ?_, by simp⟩
    obtain rfl : j = 0 := by simpa using hj
    unfold setTo
    simp [ix]
    omega
  have h4 : anyR [u].length (fun j => inB (atomC p u).lits (-(ix [u] j))) = true := anyR_true 0 (by simp) (by
    unfold inB
    exact decide_eq_true ((hm _).2 (by simp [ix])))
  have h5 : allExcV p [u] (atomC p u).lits = true := by
    unfold allExcV
    rw [List.all_eq_true]
    intro s hs
    obtain ⟨j, hj, rfl, hh⟩ := sups_at p [u] _ hs
    unfold headIn at hh
    obtain ⟨i, hi, e⟩ := anyR_is hh
    rw [decide_eq_true_eq] at e
    have e2 : ix (ixR p.rules j).head i = u := by simpa using e
    have hbd : inB (atomC p u).lits (supAt p [u] j).b = true := by
      have hbI : (supAt p [u] j).b = p.n + 1 + j := by
        show bodyI p j = _
        unfold bodyI
        rw [if_neg (by omega)]
      rw [hbI]
      unfold inB
      refine decide_eq_true ((hm _).2 (List.mem_append_left _ ((mem_supAt _).2 ⟨j, hj, ?_, rfl⟩)))
      rw [← e2]
      exact ix_mem hi
    rw [excV_F]
    unfold excF
    rw [hbd]
    simp
  unfold validC
  rw [hv, h3, hpv, hb, h4, h5]
  rfl

theorem compL_atom {p : GP} {u : Nat} (h1 : 1 ≤ u) (h2 : (u : Int) ≤ p.n) : ixC (compL p) ((compL p).length - p.n.toNat + u - 1) = atomC p u := by
  have hl := compL_len p
  have ht := compTo_len p p.rules.length
  have hat : ∀ (k i : Nat), i < k → (atomTo p k)[i]? = some (atomC p ((i : Int) + 1)) := by
    intro k
    induction k with
    | zero => intro i hi; omega
    | succ k ih =>
      intro i hi
      rw [atomTo]
      by_cases e : i < k
      · rw [List.getElem?_append_left (by rw [atomTo_len]; exact e)]
        exact ih i e
      · obtain rfl : i = k := by omega
        rw [List.getElem?_append_right (by rw [atomTo_len]; exact Nat.le_refl _), atomTo_len]
        simp
  unfold ixC
  rw [List.getD_eq_getElem?_getD, hl]
  unfold compL
  rw [List.getElem?_append_right (by rw [ht]; omega), ht, show compNs p p.rules.length + p.n.toNat - p.n.toNat + u - 1 - compNs p p.rules.length = u - 1 by omega, hat _ _ (by omega)]
  simp only [Option.getD_some]
  congr 1
  omega

end Go.Proofs.YthclpkhaenaknaaGreatDoor
