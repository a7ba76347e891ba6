/- My texts LeastP, Red1, Red2, merged. -/
import Derived.Test.YtfajkmmmmmfhiaaGreatDoorM04
import Derived.Test.YtfajkmmmmmfhiaaGreatDoorM03
import Derived.Test.YtfajkmmmmmfhiaaGreatDoorM00
import Derived.Test.YtfajkmmmmmfhiaaGreatDoorProg
import Derived.WalkKit
import Derived.Lib.Hide
import Derived.Deep.QuietTactic
import Derived.BigQuiet
import Derived.Lib.Bytealg
import Derived.MapKept
import Derived.Maps.OwnSet
import Derived.Maps.OwnOps
import Derived.WalkSpells
import Derived.Lib.SliceRun
import Derived.Test.YtfajkmmmmmfhiaaGreatDoorM02
import Derived.Test.YtfajkmmmmmfhiaaGreatDoorM01
import Derived.Deep.AppendLies
import Derived.Deep.DeepCutAuto
import Derived.Laws.EntriesVeiled

namespace Go.Proofs.YtfajkmmmmmfhiaaGreatDoor
open Go.RowKit
def wOf (r : GR) (k : Nat) : Int := if r.sum then ix r.w k else 1
def need0 (r : GR) : Int := if r.sum then r.bound else r.body.length
def lhsTo (C : List Int) (r : GR) : Nat → Int
  | 0 => 0
  | k + 1 => lhsTo C r k + if ix r.body k ∈ C then wOf r k else 0
def lhs (C : List Int) (r : GR) : Int := lhsTo C r r.body.length
def occTo (a : Int) (r : GR) : Nat → Int
  | 0 => 0
  | k + 1 => occTo a r k + if ix r.body k = a then wOf r k else 0
def stepU (U : Int → List (Int × Int)) (r : GR) (i : Nat) : Nat → Int → List (Int × Int)
  | 0 => U
  | k + 1 => fun a => if a = ix r.body k then stepU U r i k a ++ [((i : Int), wOf r k)] else stepU U r i k a
def usesU (R : List GR) : Nat → Int → List (Int × Int)
  | 0 => fun _ => []
  | i + 1 => stepU (usesU R i) (ixR R i) i (ixR R i).body.length
def sumAt (i : Int) : List (Int × Int) → Int
  | [] => 0
  | u :: l => (if u.1 = i then u.2 else 0) + sumAt i l
theorem sumAt_append (i : Int) : ∀ l m : List (Int × Int), sumAt i (l ++ m) = sumAt i l + sumAt i m
  | [], m => by simp [sumAt]
  | u :: l, m => by simp only [List.cons_append, sumAt]; rw [sumAt_append i l m]; omega
theorem stepU_sum (U : Int → List (Int × Int)) (r : GR) (i' : Nat) (i a : Int) : ∀ k, sumAt i (stepU U r i' k a) = sumAt i (U a) + if (i' : Int) = i then occTo a r k else 0
  | 0 => by simp [stepU, occTo]
  | k + 1 => by
    have ih := stepU_sum U r i' i a k
    unfold stepU occTo
    by_cases h : a = ix r.body k
    · rw [if_pos h, sumAt_append, ih]
      simp only [sumAt]
      rw [if_pos h.symm]
      split <;> omega
    · rw [if_neg h, ih, if_neg (show ¬ ix r.body k = a from fun e => h e.symm), Int.add_zero]
theorem usesU_sum (R : List GR) (i : Nat) (a : Int) : ∀ m, sumAt i (usesU R m a) = if i < m then occTo a (ixR R i) (ixR R i).body.length else 0
  | 0 => by simp [usesU, sumAt]
  | m + 1 => by
    unfold usesU
    rw [stepU_sum, usesU_sum R i a m]
    by_cases h : m = i
    · subst h; simp
    · rw [if_neg (show ¬ (m : Int) = i by omega)]
      by_cases h2 : i < m
      · rw [if_pos h2, if_pos (by omega)]; omega
      · rw [if_neg h2, if_neg (by omega)]; omega
theorem stepU_mem {U : Int → List (Int × Int)} {r : GR} {i : Nat} {a : Int} {u : Int × Int} : ∀ k, u ∈ stepU U r i k a ↔ u ∈ U a ∨ ∃ j, j < k ∧ ix r.body j = a ∧ u = ((i : Int), wOf r j)
  | 0 => by simp [stepU]
  | k + 1 => by
    have ih := stepU_mem (U := U) (r := r) (i := i) (a := a) (u := u) k
    unfold stepU
    constructor
    · intro h
      split at h
      · rename_i e
        rcases List.mem_append.1 h with h | h
        · rcases ih.1 h with h | ⟨j, h1, h2⟩
          · exact .inl h
          · exact .inr ⟨j, by omega, h2⟩
        · exact .inr ⟨k, by omega, e.symm, by simpa using h⟩
      · rcases ih.1 h with h | ⟨j, h1, h2⟩
        · exact .inl h
        · exact .inr ⟨j, by omega, h2⟩
    · intro h
      have h' : u ∈ stepU U r i k a ∨ (a = ix r.body k ∧ u = ((i : Int), wOf r k)) := by
        rcases h with h | ⟨j, h1, h2, h3⟩
        · exact .inl (ih.2 (.inl h))
        · by_cases hj : j = k
          · subst hj; exact .inr ⟨h2.symm, h3⟩
          · exact .inl (ih.2 (.inr ⟨j, by omega, h2, h3⟩))
      split
      · rename_i e
        rcases h' with h' | ⟨_, h'⟩
        · exact List.mem_append_left _ h'
        · exact List.mem_append_right _ (by simp [h'])
      · rename_i e
        rcases h' with h' | ⟨h', _⟩
        · exact h'
        · exact absurd h' e
theorem usesU_mem {R : List GR} {a : Int} {u : Int × Int} : ∀ m, u ∈ usesU R m a ↔ ∃ i j : Nat, i < m ∧ j < (ixR R i).body.length ∧ ix (ixR R i).body j = a ∧ u = ((i : Int), wOf (ixR R i) j)
  | 0 => by simp [usesU]
  | m + 1 => by
    unfold usesU
    rw [stepU_mem, usesU_mem m]
    constructor
    · rintro (⟨i, j, h1, h2⟩ | ⟨j, h1, h2⟩)
      · exact ⟨i, j, by omega, h2⟩
      · exact ⟨m, j, by omega, h1, h2⟩
    · rintro ⟨i, j, h1, h2⟩
      by_cases e : i = m
      · subst e; exact .inr ⟨j, h2⟩
      · exact .inl ⟨i, j, by omega, h2⟩
theorem lhsTo_push {C : List Int} {a : Int} (h : a ∉ C) (r : GR) : ∀ k, lhsTo (C ++ [a]) r k = lhsTo C r k + occTo a r k
  | 0 => by simp [lhsTo, occTo]
  | k + 1 => by
    unfold lhsTo occTo
    rw [lhsTo_push h r k]
    by_cases e : ix r.body k = a
    · rw [if_pos e, if_pos (by simp [e]), if_neg (by rw [e]; exact h)]; omega
    · rw [if_neg e]
      by_cases e2 : ix r.body k ∈ C
      · rw [if_pos e2, if_pos (by simp [e2])]; omega
      · rw [if_neg e2, if_neg (by simp [e, e2])]; omega
structure DefR (n : Int) (R : List GR) : Prop where
  rng : 0 ≤ n ∧ n ≤ 4000
  len : R.length ≤ 40000
  head : ∀ i, i < R.length → (ixR R i).head.length ≤ 1 ∧ ∀ x ∈ (ixR R i).head, 1 ≤ x ∧ x ≤ n
  body : ∀ i, i < R.length → (∀ k, k < (ixR R i).body.length → 1 ≤ ix (ixR R i).body k ∧ ix (ixR R i).body k ≤ n) ∧ (ixR R i).body.length ≤ 8002
  wts : ∀ i, i < R.length → (ixR R i).sum = true → (ixR R i).w.length = (ixR R i).body.length ∧ ∀ k, k < (ixR R i).w.length → 1 ≤ ix (ixR R i).w k ∧ ix (ixR R i).w k ≤ 1048576 - sumTo (ixR R i).w k
  bound : ∀ i, i < R.length → (ixR R i).sum = true → 0 ≤ (ixR R i).bound ∧ (ixR R i).bound ≤ 1048576
section
variable {n : Int} {R : List GR}
theorem DefR.w1 (h : DefR n R) {i : Nat} (hi : i < R.length) {k : Nat} (hk : k < (ixR R i).body.length) : 1 ≤ wOf (ixR R i) k ∧ wOf (ixR R i) k ≤ 1048576 ∧ ((ixR R i).sum = true → k < (ixR R i).w.length) := by
  unfold wOf
  cases hs : (ixR R i).sum with
  | false => simp
  | true =>
    obtain ⟨h1, h2⟩ := h.wts i hi hs
    have h3 := h2 k (by omega)
    have : ∀ m, m ≤ (ixR R i).w.length → 0 ≤ sumTo (ixR R i).w m := fun m => by
      induction m with
      | zero => intro _; simp [sumTo]
      | succ m ih => intro hm; have := ih (by omega); have := h2 m (by omega); unfold sumTo; omega
    have := this k (by omega)
    simp only [if_true]
    exact ⟨h3.1, by omega, fun _ => by omega⟩
theorem DefR.lhs_le (h : DefR n R) {i : Nat} (hi : i < R.length) (C : List Int) : ∀ k, k ≤ (ixR R i).body.length → 0 ≤ lhsTo C (ixR R i) k ∧ lhsTo C (ixR R i) k ≤ (if (ixR R i).sum then sumTo (ixR R i).w k else k)
  | 0, _ => by simp [lhsTo, sumTo]
  | k + 1, hk => by
    have ih := DefR.lhs_le h hi C k (by omega)
    have hw := (h.w1 hi (show k < _ by omega)).1
    unfold lhsTo
    have hle : wOf (ixR R i) k = if (ixR R i).sum then ix (ixR R i).w k else 1 := rfl
    cases hs : (ixR R i).sum with
    | false =>
      rw [hs] at ih hle
      simp only [if_false, Bool.false_eq_true] at ih hle ⊢
      split <;> push_cast <;> omega
    | true =>
      rw [hs] at ih hle
      simp only [if_true] at ih hle ⊢
      unfold sumTo
      split <;> omega
theorem DefR.sum_le (h : DefR n R) {i : Nat} (hi : i < R.length) (hs : (ixR R i).sum = true) : ∀ k, k ≤ (ixR R i).w.length → sumTo (ixR R i).w k ≤ 1048576
  | 0, _ => by simp [sumTo]
  | k + 1, hk => by have := (h.wts i hi hs).2 k (by omega); unfold sumTo; omega
theorem DefR.need (h : DefR n R) {i : Nat} (hi : i < R.length) (C : List Int) {k : Nat} (hk : k ≤ (ixR R i).body.length) : -1048576 ≤ need0 (ixR R i) - lhsTo C (ixR R i) k ∧ need0 (ixR R i) - lhsTo C (ixR R i) k ≤ 1048576 := by
  have h1 := h.lhs_le hi C k hk
  have hb := (h.body i hi).2
  unfold need0
  cases hs : (ixR R i).sum with
  | false =>
    rw [hs] at h1
    simp only [if_false, Bool.false_eq_true] at h1 ⊢
    omega
  | true =>
    rw [hs] at h1
    have h2 := h.sum_le hi hs k (by have := (h.wts i hi hs).1; omega)
    have h3 := h.bound i hi hs
    simp only [if_true] at h1 ⊢
    omega
theorem lhsTo_mono (h : DefR n R) {i : Nat} (hi : i < R.length) {C C' : List Int} (hc : ∀ x ∈ C, x ∈ C') : ∀ k, k ≤ (ixR R i).body.length → lhsTo C (ixR R i) k ≤ lhsTo C' (ixR R i) k
  | 0, _ => by simp [lhsTo]
  | k + 1, hk => by
    have ih := lhsTo_mono h hi hc k (by omega)
    have hw := (h.w1 hi (show k < _ by omega)).1
    unfold lhsTo
    by_cases h1 : ix (ixR R i).body k ∈ C
    · rw [if_pos h1, if_pos (hc _ h1)]; omega
    · rw [if_neg h1]; split <;> omega
theorem lhsTo_congr {C C' : List Int} (hc : ∀ x, x ∈ C ↔ x ∈ C') (r : GR) : ∀ k, lhsTo C r k = lhsTo C' r k
  | 0 => rfl
  | k + 1 => by unfold lhsTo; rw [lhsTo_congr hc r k]; simp only [hc]
def ClosedD (R : List GR) (T : List Int) : Prop := ∀ i, i < R.length → need0 (ixR R i) ≤ lhs T (ixR R i) → ∀ x ∈ (ixR R i).head, x ∈ T
def Der (R : List GR) (x : Int) : Prop := ∀ T, ClosedD R T → x ∈ T
structure IsLeast (R : List GR) (M : List Int) : Prop where
  closed : ClosedD R M
  least : ∀ x ∈ M, Der R x
theorem der_of (h : DefR n R) {C : List Int} (hC : ∀ x ∈ C, Der R x) {i : Nat} (hi : i < R.length) (hn : need0 (ixR R i) ≤ lhs C (ixR R i)) {x : Int} (hx : x ∈ (ixR R i).head) : Der R x := fun T hT =>
  hT i hi (Int.le_trans hn (lhsTo_mono h hi (fun y hy => hC y hy T hT) _ (Nat.le_refl _))) x hx
structure Lv (n : Int) (R : List GR) (C l od nd : List Int) : Prop where
  nodup : (C ++ l).Nodup
  range : ∀ x ∈ C ++ l, 1 ≤ x ∧ x ≤ n
  olen : (od.length : Int) = n
  nlen : nd.length = R.length
  out : ∀ x : Int, 1 ≤ x → x ≤ n → (0 < ix od (x - 1).toNat ↔ x ∈ C ++ l) ∧ 0 ≤ ix od (x - 1).toNat ∧ ix od (x - 1).toNat ≤ 4000000
  der : ∀ x ∈ C ++ l, Der R x
def Asked (R : List GR) (A nd : List Int) (Todo : Nat → Prop) : Prop := ∀ i, i < R.length → ix nd i ≤ 0 → (∀ x ∈ (ixR R i).head, x ∈ A) ∨ Todo i
def Paid (R : List GR) (C nd : List Int) : Prop := ∀ i, i < R.length → ix nd i = need0 (ixR R i) - lhs C (ixR R i)
theorem ix_set (l : List Int) (i j : Nat) (v : Int) (hi : i < l.length) : ix (l.set i v) j = if j = i then v else ix l j := by
  unfold ix
  simp only [List.getD_eq_getElem?_getD]
  by_cases h : j = i
  · subst h; rw [if_pos rfl, List.getElem?_set_self hi]; rfl
  · rw [if_neg h, List.getElem?_set_ne (by omega)]
theorem Lv.take {C l od nd : List Int} (hd : DefR n R) (h : Lv n R C l od nd) (hp : Paid R C nd) {i : Nat} (hi : i < R.length) (h0 : ix nd i ≤ 0) {x : Int} (hx : (ixR R i).head = [x]) (ho : ix od (x - 1).toNat = 0) {round : Int} (hr : 1 ≤ round ∧ round ≤ 4000000) :
    Lv n R C (l ++ [x]) (od.set (x - 1).toNat round) nd := by
  have hxr := (hd.head i hi).2 x (by rw [hx]; simp)
  have hxn : x ∉ C ++ l := fun hm => by have := (h.out x hxr.1 hxr.2).1.2 hm; omega
  have hol := h.olen
  have hlt : (x - 1).toNat < od.length := by omega
  refine ⟨by rw [← List.append_assoc]; exact List.nodup_append.2 ⟨h.nodup, by simp, fun a ha b hb => by simp only [List.mem_singleton] at hb; subst hb; rintro rfl; exact hxn ha⟩, fun y hy => ?_, by simpa using hol, h.nlen, fun y h1 h2 => ?_, fun y hy => ?_⟩
  · rw [← List.append_assoc] at hy
    rcases List.mem_append.1 hy with hy | hy
    · exact h.range y hy
    · simp only [List.mem_singleton] at hy; subst hy; exact hxr
  · rw [ix_set _ _ _ _ hlt, ← List.append_assoc]
    by_cases e : y = x
    · subst e; rw [if_pos rfl]; simp; omega
    · rw [if_neg (by omega)]
      have h3 := h.out y h1 h2
      refine ⟨h3.1.trans ?_, h3.2⟩
      simp [e]
  · rw [← List.append_assoc] at hy
    rcases List.mem_append.1 hy with hy | hy
    · exact h.der y hy
    · simp only [List.mem_singleton] at hy; subst hy
      exact der_of hd (fun z hz => h.der z (List.mem_append_left _ hz)) hi (by have := hp i hi; omega) (by rw [hx]; simp)
theorem sumAt_nonneg (i : Int) : ∀ l : List (Int × Int), (∀ u ∈ l, 0 ≤ u.2) → 0 ≤ sumAt i l
  | [], _ => by simp [sumAt]
  | u :: l, h => by
    have h1 := sumAt_nonneg i l (fun v hv => h v (by simp [hv]))
    have h2 := h u (by simp)
    unfold sumAt
    split <;> omega
theorem sumAt_take_le (i : Int) (l : List (Int × Int)) (h : ∀ u ∈ l, 0 ≤ u.2) (q : Nat) : 0 ≤ sumAt i (l.take q) ∧ sumAt i (l.take q) ≤ sumAt i l := by
  have h1 := sumAt_nonneg i (l.take q) (fun u hu => h u (List.mem_of_mem_take hu))
  have h2 := sumAt_nonneg i (l.drop q) (fun u hu => h u (List.mem_of_mem_drop hu))
  have h3 := sumAt_append i (l.take q) (l.drop q)
  rw [List.take_append_drop] at h3
  omega
def Todo (R : List GR) (L : List Int) (j : Nat) (i : Nat) : Prop := ∃ j', j ≤ j' ∧ j' < L.length ∧ ∃ u ∈ usesU R R.length (ix L j'), u.1 = (i : Int)
def Todo2 (R : List GR) (L : List Int) (j q : Nat) (i : Nat) : Prop := (∃ q', q ≤ q' ∧ q' < (usesU R R.length (ix L j)).length ∧ ((usesU R R.length (ix L j)).getD q' (0, 0)).1 = (i : Int)) ∨ Todo R L (j + 1) i
theorem Todo.open {L : List Int} {j i : Nat} (h : Todo R L j i) : Todo2 R L j 0 i := by
  obtain ⟨j', h1, h2, u, hu, e⟩ := h
  by_cases hj : j' = j
  · subst hj
    obtain ⟨q, hq, e2⟩ := List.mem_iff_getElem.1 hu
    exact .inl ⟨q, by omega, hq, by rw [List.getD_eq_getElem?_getD, List.getElem?_eq_getElem hq]; simp [e2, e]⟩
  · exact .inr ⟨j', by omega, h2, u, hu, e⟩
theorem Todo.none {L : List Int} {i : Nat} (h : Todo R L L.length i) : False := by
  obtain ⟨j, h1, h2, _⟩ := h
  omega
def posL (od : List Int) : Nat → List Int
  | 0 => []
  | k + 1 => if 0 < ix od k then posL od k ++ [(k : Int) + 1] else posL od k
theorem posL_mem (od : List Int) (x : Int) : ∀ k, x ∈ posL od k ↔ 1 ≤ x ∧ x ≤ k ∧ 0 < ix od (x - 1).toNat
  | 0 => by simp [posL]; omega
  | k + 1 => by
    have ih := posL_mem od x k
    unfold posL
    split
    · rename_i h
      simp only [List.mem_append, List.mem_singleton, ih]
      constructor
      · rintro (h1 | h1)
        · exact ⟨h1.1, by omega, h1.2.2⟩
        · refine ⟨by omega, by omega, ?_⟩
          have : (x - 1).toNat = k := by omega
          rw [this]; exact h
      · rintro ⟨h1, h2, h3⟩
        by_cases e : x = (k : Int) + 1
        · exact .inr e
        · exact .inl ⟨h1, by omega, h3⟩
    · rename_i h
      rw [ih]
      constructor
      · rintro ⟨h1, h2, h3⟩; exact ⟨h1, by omega, h3⟩
      · rintro ⟨h1, h2, h3⟩
        refine ⟨h1, ?_, h3⟩
        by_cases e : x = (k : Int) + 1
        · have : (x - 1).toNat = k := by omega
          rw [this] at h3; exact absurd h3 h
        · omega
theorem Lv.done {C od nd : List Int} (h : Lv n R C [] od nd) (hp : Paid R C nd) (ha : Asked R C nd (fun _ => False)) : IsLeast R (posL od n.toNat) := by
  have hC : ∀ x, x ∈ posL od n.toNat ↔ x ∈ C := fun x => by
    rw [posL_mem]
    constructor
    · rintro ⟨h1, h2, h3⟩
      have := ((h.out x h1 (by omega)).1).1 h3
      simpa using this
    · intro hx
      have hr := h.range x (by simpa using hx)
      exact ⟨hr.1, by omega, ((h.out x hr.1 hr.2).1).2 (by simpa using hx)⟩
  refine ⟨fun i hi hn x hx => ?_, fun x hx => h.der x (by simpa using (hC x).1 hx)⟩
  have e : lhs (posL od n.toNat) (ixR R i) = lhs C (ixR R i) := lhsTo_congr hC _ _
  rcases ha i hi (by have := hp i hi; omega) with h1 | h1
  · exact (hC x).2 (h1 x hx)
  · exact h1.elim
end
theorem made_list (z : Value) (n : Nat) : madeCells #[z] n = (List.replicate n z).toArray := by
  apply Array.ext
  · simp [size_madeCells]
  · intro i h1 h2
    simp [madeCells, Nat.mod_one]
def setQ (n : Int) (S : List Int) : Bool := allR S.length (setTo n S)
set_option maxHeartbeats 2000000 in
theorem redSet_any (vs : Value) (n : Int) (S : List Int) (w : World) (hs : Ints w vs S) :
    Calls Tryz.prog 30 #[vs, .int .i64 n] w fun e w' => e = .returned (.bool (setQ n S)) ∧ w = w' := by
  obtain ⟨a1, c1, rfl, -, hl1, -, hcell⟩ := hs.form
  clear hs
  go_enter Tryz.func30, Tryz.ntmps30
  go_wp2
  go_loop [9] (fun i => ∃ k : Nat, k ≤ S.length ∧ i = .int .i64 k ∧ Hid (∀ j, j < k → setTo n S j = true)) (fun i => S.length - (intOf i).toNat)
  case atStart => exact ⟨0, by omega, rfl, Lib.hid (fun j hj => absurd hj (Nat.not_lt_zero _))⟩
  case round =>
    obtain ⟨k, hk, rfl, HA⟩ := hrel
    have HF : Hid (∀ k, k < S.length → setTo n S k = false → setQ n S = false) := Lib.hid (fun k hk h => by unfold setQ; rw [allR_false k hk h])
    by_cases hlt : k < S.length
    · obtain ⟨b, off, rfl, hbl, hc⟩ := hcell (by omega)
      have hk1 := hc k hlt
      by_cases h1 : ix S k < 1
      · have HN : Hid (setTo n S k = false) := Lib.hid (by unfold setTo; rw [decide_eq_false (by omega)]; rfl)
        clear hc hcell
        go_wp2
        go_ret
        exact ⟨ret_bool (HF.out k hlt HN.out).symm, rfl⟩
      · by_cases h2 : n < ix S k
        · have HN : Hid (setTo n S k = false) := Lib.hid (by unfold setTo; rw [decide_eq_false (by omega)]; rfl)
          clear hc hcell
          go_wp2
          go_ret
          exact ⟨ret_bool (HF.out k hlt HN.out).symm, rfl⟩
        · cases k with
          | zero =>
            have hk0 : w.cell? ⟨b, off, none⟩ = some (.int .i64 (ix S 0)) := hc 0 hlt
            clear hk1
            have HN := Lib.hid (lt_succ_all HA.out (show setTo n S 0 = true by unfold setTo; rw [decide_eq_true (by omega)]; rfl))
            clear hc hcell
            go_wp2
            first
              | (go_round
                 case rel => (exact ⟨0 + 1, by omega, by go_num, HN⟩)
                 case measure => (simp [intOf]; omega))
              | (refine ⟨?_, ?_⟩
                 · (exact ⟨0 + 1, by omega, by go_num, HN⟩)
                 · (simp [intOf]; omega))
          | succ k =>
            have hk0 := hc k (by omega)
            have e1 : (((k + 1 : Nat) : Int) - 1).toNat = k := by omega
            by_cases h3 : ix S k < ix S (k + 1)
            · have HN := Lib.hid (lt_succ_all HA.out (show setTo n S (k + 1) = true by unfold setTo; rw [decide_eq_true (by omega), Nat.add_sub_cancel, decide_eq_true h3]; simp))
              clear hc hcell
              go_wp2
              first
                | (go_round
                   case rel => (exact ⟨k + 1 + 1, by omega, by go_num, HN⟩)
                   case measure => (simp [intOf]; omega))
                | (refine ⟨?_, ?_⟩
                   · (exact ⟨k + 1 + 1, by omega, by go_num, HN⟩)
                   · (simp [intOf]; omega))
            · have HN : Hid (setTo n S (k + 1) = false) := Lib.hid (by unfold setTo; rw [Nat.add_sub_cancel, decide_eq_false h3]; simp)
              clear hc hcell
              go_wp2
              go_ret
              exact ⟨ret_bool (HF.out (k + 1) hlt HN.out).symm, rfl⟩
    · have HN : Hid (setQ n S = true) := Lib.hid (by unfold setQ; rw [allR_true (fun j hj => HA.out j (by omega))])
      go_wp2
      go_ret
      exact ⟨ret_bool HN.out.symm, rfl⟩
def wsum (m : List Int) (r : GR) : Nat → Int
  | 0 => 0
  | k + 1 => wsum m r k + if litT m (ix r.body k) then ix r.w k else 0
def bodyT (r : GR) (m : List Int) : Bool := if r.sum then decide (r.bound ≤ wsum m r r.body.length) else allR r.body.length (fun j => litT m (ix r.body j))
structure BodyOk (r : GR) : Prop where
  len : r.body.length ≤ 8000
  lit : ∀ j, j < r.body.length → -9223372036854775808 < ix r.body j
  wlen : r.sum = true → r.w.length = r.body.length
  w : r.sum = true → ∀ j, j < r.w.length → 0 ≤ ix r.w j ∧ ix r.w j ≤ 1048576
theorem wsum_bound {m : List Int} {r : GR} (h : BodyOk r) (hs : r.sum = true) : ∀ (k : Nat), k ≤ r.body.length → 0 ≤ wsum m r k ∧ wsum m r k ≤ 1048576 * k
  | 0, _ => by simp [wsum]
  | k + 1, hk => by
    have ih := wsum_bound (m := m) h hs k (by omega)
    have hw := h.w hs k (by have := h.wlen hs; omega)
    unfold wsum
    push_cast
    split <;> omega
theorem bodyc_any (x : Int) (m : List Int) (mb cb : Nat) (w : World) (h : InM w mb m) (hb : Blk w cb [.func (.func 128) #[] #[.pointer (some ⟨mb, 0, none⟩)]] 92) (hx : -9223372036854775808 < x ∧ x ≤ 9223372036854775807) :
    Calls Tryz.prog 126 #[.int .i64 x, .pointer (some ⟨cb, 0, none⟩)] w fun e w' => e = .returned (.bool (!litT m x)) ∧ w = w' := by
  have H := Lib.hid h
  have kb := hb.cell 0
  clear h hb
  go_enter Tryz.func126, Tryz.ntmps126
  go_wp2_with (go_at_call 127; (with_reducible refine (holdsL_any _ m _ _ H.out (by omega)).mono ?_); rintro e w1 ⟨rfl, rfl⟩)
  go_ret
  exact ⟨rfl, rfl⟩
set_option maxHeartbeats 1000000 in
theorem idx_bd (v : Value) (l : List Int) (w : World) (h : Ints w v l) (g : Nat → Bool) (cap : Value)
    (hg : ∀ w', Below w.heap.size w w' → ∀ j, j < l.length → Calls Tryz.prog 126 #[.int .i64 (ix l j), cap] w' fun e w'' => e = .returned (.bool (g j)) ∧ Below w'.heap.size w' w'') :
    Calls Tryz.prog 108 #[v, .func (.func 126) #[] #[cap]] w fun e w' => ∃ r, e = .returned (.int .i64 r) ∧ IxP l.length g r ∧ Below w.heap.size w w' := by
  obtain ⟨a1, c1, rfl, -, hl1, -, hcell⟩ := h.form
  have HG := Lib.hid hg
  clear h hg
  go_enter Tryz.func108, Tryz.ntmps108
  go_wp2
  go_loopw [8] (fun i wx => IxR l.length g w i wx) (fun i _ => l.length - (intOf i).toNat)
  case atStart => exact ⟨0, by omega, rfl, fun j hj => absurd hj (Nat.not_lt_zero _), Below.refl _ _⟩
  case round =>
    obtain ⟨k, hk, rfl, hall, hb⟩ := hrel
    have HA := Lib.hid hall
    clear hall
    by_cases hlt : k < l.length
    · obtain ⟨b, off, rfl, hbl, hc⟩ := hcell (by omega)
      have hk1 := (bcell hb _ _ hbl).trans (hc k hlt)
      clear hc hcell
      cases g1 : g k with
      | true =>
        have HK : Hid (_ = true) := Lib.hid g1
        have HC := Lib.hid (HG.out _ hb k hlt)
        rw [g1] at HC
        clear g1
        go_wp2_with (go_at_call 126; refine (HC.out).mono ?_; rintro e w1 ⟨rfl, hb1⟩)
        go_ret
        exact ⟨_, rfl, .inr ⟨k, hlt, rfl, HK.out, HA.out⟩, bon hb hb1⟩
      | false =>
        have HN := Lib.hid (lt_succ_all HA.out g1)
        have HC := Lib.hid (HG.out _ hb k hlt)
        rw [g1] at HC
        clear g1
        go_wp2_with (go_at_call 126; refine (HC.out).mono ?_; rintro e w1 ⟨rfl, hb1⟩)
        first
          | (go_roundw
             case rel => (exact ⟨k + 1, by omega, by go_num, HN.out, bon hb hb1⟩)
             case measure => (simp [intOf]; omega))
          | (refine ⟨?_, ?_⟩
             · (exact ⟨k + 1, by omega, by go_num, HN.out, bon hb hb1⟩)
             · (simp [intOf]; omega))
    · have HN : Hid (∀ j, j < l.length → g j = false) := Lib.hid (fun j hj => HA.out j (by omega))
      go_wp2
      go_ret
      exact ⟨_, rfl, .inl ⟨rfl, HN.out⟩, hb⟩
set_option maxHeartbeats 1000000 in
theorem ctn_bd (v : Value) (l : List Int) (w : World) (h : Ints w v l) (g : Nat → Bool) (cap : Value)
    (hg : ∀ w', Below w.heap.size w w' → ∀ j, j < l.length → Calls Tryz.prog 126 #[.int .i64 (ix l j), cap] w' fun e w'' => e = .returned (.bool (g j)) ∧ Below w'.heap.size w' w'') :
    Calls Tryz.prog 76 #[v, .func (.func 126) #[] #[cap]] w fun e w' => e = .returned (.bool (anyR l.length g)) ∧ Below w.heap.size w w' := by
  have HI := Lib.hid (idx_bd v l w h g cap hg)
  obtain ⟨a1, c1, rfl, -⟩ := h.form
  clear h hg
  go_enter Tryz.func76, Tryz.ntmps76
  go_wp2_with (go_at_call 108; refine (HI.out).mono ?_; rintro e w1 ⟨r, rfl, hr, hb1⟩; have HR := Lib.hid hr; clear hr)
  go_ret
  exact ⟨ret_bool HR.out.any, hb1⟩
def BdRel (m : List Int) (r : GR) (s i : Value) : Prop := ∃ k : Nat, k ≤ r.body.length ∧ i = .int .i64 k ∧ s = .int .i64 (wsum m r k)
theorem allR_not {n : Nat} {f : Nat → Bool} : (!anyR n fun j => !f j) = allR n f := by
  unfold anyR allR
  induction List.range n with
  | nil => rfl
  | cons x l ih => simp only [List.any_cons, List.all_cons, Bool.not_or, ih, Bool.not_not]
set_option maxHeartbeats 2000000 in
theorem bodyf_any (v : Value) (r : GR) (m : List Int) (mb : Nat) (w : World) (hr : RuleIs w v r) (h : InM w mb m) (hok : BodyOk r) :
    Calls Tryz.prog 78 #[v, .func (.func 128) #[] #[.pointer (some ⟨mb, 0, none⟩)]] w fun e w' => e = .returned (.bool (bodyT r m)) ∧ Below w.heap.size w w' := by
  obtain ⟨vh, vb, vw, rfl, hsl⟩ := hr
  have hal := bal (bal (Below.refl w.heap.size w) (.cells #[.bool r.choice, vh, .bool r.sum, .int .i64 r.bound, vb, vw] 60)) (.cells #[.func (.func 128) #[] #[.pointer (some ⟨mb, 0, none⟩)]] 92)
  have HBX : Hid (Blk ((w.alloc (.cells #[.bool r.choice, vh, .bool r.sum, .int .i64 r.bound, vb, vw] 60)).alloc (.cells #[.func (.func 128) #[] #[.pointer (some ⟨mb, 0, none⟩)]] 92)) (w.heap.size + 1) [.func (.func 128) #[] #[.pointer (some ⟨mb, 0, none⟩)]] 92) := Lib.hid (by repeat first | (refine Blk.newAt _ _ _ ?_; first | rfl | (simp only [World.size_alloc]; done) | (simp only [World.size_alloc]; omega)) | refine Blk.alloc ?_ _)
  obtain ⟨a2, c2, rfl, -, hl2, -, hcb⟩ := hsl.body.form
  obtain ⟨a3, c3, rfl, -, hl3, -, hcw⟩ := hsl.wts.form
  have HB := Lib.hid (hsl.body.below hal)
  have HIN := Lib.hid (h.below hal)
  have hfit := hsl.body.2
  have hbd := hsl.bound
  unfold InI at hbd
  cases hs : r.sum with
  | false =>
    rw [hs] at hal HBX HB HIN
    have HF : Hid (bodyT r m = !anyR r.body.length (fun j => !litT m (ix r.body j))) := Lib.hid (by unfold bodyT; rw [hs, allR_not]; rfl)
    have HC : Hid (∀ w', Below ((w.alloc (.cells #[.bool r.choice, vh, .bool false, .int .i64 r.bound, .slice a2 r.body.length c2, .slice a3 r.w.length c3] 60)).alloc (.cells #[.func (.func 128) #[] #[.pointer (some ⟨mb, 0, none⟩)]] 92)).heap.size ((w.alloc (.cells #[.bool r.choice, vh, .bool false, .int .i64 r.bound, .slice a2 r.body.length c2, .slice a3 r.w.length c3] 60)).alloc (.cells #[.func (.func 128) #[] #[.pointer (some ⟨mb, 0, none⟩)]] 92)) w' → ∀ j, j < r.body.length → Calls Tryz.prog 126 #[.int .i64 (ix r.body j), .pointer (some ⟨w.heap.size + 1, 0, none⟩)] w' fun e w'' => e = .returned (.bool (!litT m (ix r.body j))) ∧ Below w'.heap.size w' w'') :=
      Lib.hid (fun w' hb j hj => (bodyc_any _ m mb _ w' (HIN.out.below hb) (HBX.out.below hb) ⟨hok.lit j hj, (hfit j).2⟩).mono fun e w'' ⟨e1, e2⟩ => ⟨e1, e2 ▸ Below.refl _ _⟩)
    clear hsl hs h hok hcb hcw
    go_enter Tryz.func78, Tryz.ntmps78
    go_wp2_with (go_at_call 76; (with_reducible refine (ctn_bd _ r.body _ HB.out (fun j => !litT m (ix r.body j)) _ HC.out).mono ?_); rintro e w1 ⟨rfl, hb1⟩)
    go_ret
    exact ⟨ret_bool HF.out.symm, bon hal hb1⟩
  | true =>
    rw [hs] at hal HBX HB HIN
    have HF : Hid (bodyT r m = decide (r.bound ≤ wsum m r r.body.length)) := Lib.hid (by unfold bodyT; rw [hs]; rfl)
    have HWB : Hid (∀ k, k ≤ r.body.length → 0 ≤ wsum m r k ∧ wsum m r k ≤ 1048576 * k) := Lib.hid (fun k hk => wsum_bound hok hs k hk)
    have hwl := hok.wlen hs
    have hlen := hok.len
    have HW : Hid (∀ j, j < r.w.length → 0 ≤ ix r.w j ∧ ix r.w j ≤ 1048576) := Lib.hid (hok.w hs)
    have HLT : Hid (∀ j, j < r.body.length → -9223372036854775808 < ix r.body j ∧ ix r.body j ≤ 9223372036854775807) := Lib.hid (fun j hj => ⟨hok.lit j hj, (hfit j).2⟩)
    have HWL := Lib.hid hwl
    have q0 := (Blk.newAt w [.bool r.choice, vh, .bool true, .int .i64 r.bound, .slice a2 r.body.length c2, .slice a3 r.w.length c3] 60 (b := w.heap.size) rfl).alloc (.cells #[.func (.func 128) #[] #[.pointer (some ⟨mb, 0, none⟩)]] 92)
    have kq := q0.cell
    have kx := HBX.out.cell 0
    have HCB : Hid (∀ j, j < r.body.length → ∃ b off, a2 = some ⟨b, off, none⟩ ∧ ((w.alloc (.cells #[.bool r.choice, vh, .bool true, .int .i64 r.bound, .slice a2 r.body.length c2, .slice a3 r.w.length c3] 60)).alloc (.cells #[.func (.func 128) #[] #[.pointer (some ⟨mb, 0, none⟩)]] 92)).cell? ⟨b, off + j, none⟩ = some (.int .i64 (ix r.body j))) := Lib.hid (fun j hj => by
      obtain ⟨b, off, e, hl, hc⟩ := hcb (by omega)
      exact ⟨b, off, e, (bcell hal _ _ hl).trans (hc j hj)⟩)
    have HCW : Hid (∀ j, j < r.w.length → ∃ b off, a3 = some ⟨b, off, none⟩ ∧ ((w.alloc (.cells #[.bool r.choice, vh, .bool true, .int .i64 r.bound, .slice a2 r.body.length c2, .slice a3 r.w.length c3] 60)).alloc (.cells #[.func (.func 128) #[] #[.pointer (some ⟨mb, 0, none⟩)]] 92)).cell? ⟨b, off + j, none⟩ = some (.int .i64 (ix r.w j))) := Lib.hid (fun j hj => by
      obtain ⟨b, off, e, hl, hc⟩ := hcw (by omega)
      exact ⟨b, off, e, (bcell hal _ _ hl).trans (hc j hj)⟩)
    have HAL := Lib.hid hal
    clear hsl hs h hok hcb hcw hal HBX q0 hwl
    go_enter Tryz.func78, Tryz.ntmps78
    go_upto_region 4 with fail
    generalize (w.alloc (.cells #[.bool r.choice, vh, .bool true, .int .i64 r.bound, .slice a2 r.body.length c2, .slice a3 r.w.length c3] 60)).alloc (.cells #[.func (.func 128) #[] #[.pointer (some ⟨mb, 0, none⟩)]] 92) = W at *
    go_wp2
    go_loop [5, 19] (fun s i => BdRel m r s i) (fun _ i => r.body.length - (intOf i).toNat)
    case atStart => exact ⟨0, Nat.zero_le _, rfl, rfl⟩
    case round =>
      obtain ⟨k, hk, rfl, rfl⟩ := hrel
      have hwb := HWB.out k hk
      by_cases hlt : k < r.body.length
      · obtain ⟨b1, o1, rfl, hc1⟩ := HCB.out k hlt
        obtain ⟨b2, o2, rfl, hc2⟩ := HCW.out k (by have := HWL.out; omega)
        have hltw : k < r.w.length := by have := HWL.out; omega
        have hwk := HW.out k hltw
        have HLK := Lib.hid (HLT.out k hlt)
        cases hh : litT m (ix r.body k) with
        | true =>
          have HN : Hid (wsum m r (k + 1) = wsum m r k + ix r.w k) := Lib.hid (by rw [wsum, hh]; rfl)
          have HHH := Lib.hid hh
          clear hh
          go_wp2_with (go_at_call 127; (with_reducible refine (holdsL_any _ m _ _ HIN.out HLK.out).mono ?_); rintro e w1 ⟨e1, rfl⟩; rw [HHH.out] at e1; subst e1)
          first
            | (go_round
               case rel => (exact ⟨k + 1, by omega, by go_num, by rw [HN.out]⟩)
               case measure => (simp [intOf]; omega))
            | (refine ⟨?_, ?_⟩
               · (exact ⟨k + 1, by omega, by go_num, by rw [HN.out]⟩)
               · (simp [intOf]; omega))
        | false =>
          have HN : Hid (wsum m r (k + 1) = wsum m r k) := Lib.hid (by rw [wsum, hh]; simp)
          have HHH := Lib.hid hh
          clear hh
          go_wp2_with (go_at_call 127; (with_reducible refine (holdsL_any _ m _ _ HIN.out HLK.out).mono ?_); rintro e w1 ⟨e1, rfl⟩; rw [HHH.out] at e1; subst e1)
          first
            | (go_round
               case rel => (exact ⟨k + 1, by omega, by go_num, by rw [HN.out]⟩)
               case measure => (simp [intOf]; omega))
            | (refine ⟨?_, ?_⟩
               · (exact ⟨k + 1, by omega, by go_num, by rw [HN.out]⟩)
               · (simp [intOf]; omega))
      · obtain rfl : k = r.body.length := by omega
        go_wp2
        go_ret
        exact ⟨ret_bool HF.out.symm, HAL.out⟩
set_option maxHeartbeats 1000000 in
theorem idx_hd (v : Value) (l : List Int) (w : World) (h : Ints w v l) (g : Nat → Bool) (cap : Value)
    (hg : ∀ w', Below w.heap.size w w' → ∀ j, j < l.length → Calls Tryz.prog 128 #[.int .i64 (ix l j), cap] w' fun e w'' => e = .returned (.bool (g j)) ∧ Below w'.heap.size w' w'') :
    Calls Tryz.prog 108 #[v, .func (.func 128) #[] #[cap]] w fun e w' => ∃ r, e = .returned (.int .i64 r) ∧ IxP l.length g r ∧ Below w.heap.size w w' := by
  obtain ⟨a1, c1, rfl, -, hl1, -, hcell⟩ := h.form
  have HG := Lib.hid hg
  clear h hg
  go_enter Tryz.func108, Tryz.ntmps108
  go_wp2
  go_loopw [8] (fun i wx => IxR l.length g w i wx) (fun i _ => l.length - (intOf i).toNat)
  case atStart => exact ⟨0, by omega, rfl, fun j hj => absurd hj (Nat.not_lt_zero _), Below.refl _ _⟩
  case round =>
    obtain ⟨k, hk, rfl, hall, hb⟩ := hrel
    have HA := Lib.hid hall
    clear hall
    by_cases hlt : k < l.length
    · obtain ⟨b, off, rfl, hbl, hc⟩ := hcell (by omega)
      have hk1 := (bcell hb _ _ hbl).trans (hc k hlt)
      clear hc hcell
      cases g1 : g k with
      | true =>
        have HK : Hid (_ = true) := Lib.hid g1
        have HC := Lib.hid (HG.out _ hb k hlt)
        rw [g1] at HC
        clear g1
        go_wp2_with (go_at_call 128; refine (HC.out).mono ?_; rintro e w1 ⟨rfl, hb1⟩)
        go_ret
        exact ⟨_, rfl, .inr ⟨k, hlt, rfl, HK.out, HA.out⟩, bon hb hb1⟩
      | false =>
        have HN := Lib.hid (lt_succ_all HA.out g1)
        have HC := Lib.hid (HG.out _ hb k hlt)
        rw [g1] at HC
        clear g1
        go_wp2_with (go_at_call 128; refine (HC.out).mono ?_; rintro e w1 ⟨rfl, hb1⟩)
        first
          | (go_roundw
             case rel => (exact ⟨k + 1, by omega, by go_num, HN.out, bon hb hb1⟩)
             case measure => (simp [intOf]; omega))
          | (refine ⟨?_, ?_⟩
             · (exact ⟨k + 1, by omega, by go_num, HN.out, bon hb hb1⟩)
             · (simp [intOf]; omega))
    · have HN : Hid (∀ j, j < l.length → g j = false) := Lib.hid (fun j hj => HA.out j (by omega))
      go_wp2
      go_ret
      exact ⟨_, rfl, .inl ⟨rfl, HN.out⟩, hb⟩
set_option maxHeartbeats 1000000 in
theorem ctn_hd (v : Value) (l : List Int) (w : World) (h : Ints w v l) (g : Nat → Bool) (cap : Value)
    (hg : ∀ w', Below w.heap.size w w' → ∀ j, j < l.length → Calls Tryz.prog 128 #[.int .i64 (ix l j), cap] w' fun e w'' => e = .returned (.bool (g j)) ∧ Below w'.heap.size w' w'') :
    Calls Tryz.prog 76 #[v, .func (.func 128) #[] #[cap]] w fun e w' => e = .returned (.bool (anyR l.length g)) ∧ Below w.heap.size w w' := by
  have HI := Lib.hid (idx_hd v l w h g cap hg)
  obtain ⟨a1, c1, rfl, -⟩ := h.form
  clear h hg
  go_enter Tryz.func76, Tryz.ntmps76
  go_wp2_with (go_at_call 108; refine (HI.out).mono ?_; rintro e w1 ⟨r, rfl, hr, hb1⟩; have HR := Lib.hid hr; clear hr)
  go_ret
  exact ⟨ret_bool HR.out.any, hb1⟩
def satT (r : GR) (m : List Int) : Bool := r.choice || !bodyT r m || anyR r.head.length (fun j => decide (ix r.head j ∈ m))
theorem lits_le2 {l : List Int} {n : Int} (h : orderedB l n = true) (hn : 0 ≤ n) : (l.length : Int) ≤ 2 * n := by
  have hp : (l.map litKey).Pairwise (· < ·) := by
    rw [List.pairwise_iff_getElem]
    intro i j hi hj hij
    simp only [List.length_map] at hi hj
    have := ordered_lt h j hj i hij
    simpa [ix, List.getD_eq_getElem?_getD, List.getElem?_eq_getElem hi, List.getElem?_eq_getElem hj] using this
  have := lt_length (l.map litKey) 2 (2 * n + 2) hp (fun x hx => by
    obtain ⟨y, hy, rfl⟩ := List.mem_map.1 hx
    have := ordered_lit h hy
    unfold litKey
    split <;> omega) (by omega)
  simp at this; omega
structure BodyV (r : GR) (n : Int) : Prop where
  rng : 0 ≤ n ∧ n ≤ 4000
  ord : orderedB r.body n = true
  sum : r.sum = true → weightsB r.w r.body.length = true
  bound : 0 ≤ r.bound
theorem bodyV_valid {p : GP} (h : validE p = 0) {k : Nat} (hk : k < p.rules.length) : BodyV (ixR p.rules k) p.n :=
  let hv := validP h; ⟨hv.n, hv.body k hk, hv.sum k hk, hv.bound k hk⟩
theorem BodyV.ok {r : GR} {n : Int} (h : BodyV r n) : BodyOk r where
  len := by have := lits_le2 h.ord h.rng.1; have := h.rng; omega
  lit := fun j hj => by have := ordered_lit h.ord (ix_mem hj); have := h.rng; omega
  wlen := fun hs => by have := (weights_sum (h.sum hs)).1; omega
  w := fun hs j hj => by
    have h1 := weights_sum (h.sum hs)
    have h2 := h1.2.1 j hj
    have h3 := h1.2.2 (j + 1) (by omega)
    have h4 := h1.2.2 j (by omega)
    unfold sumTo at h3
    omega
theorem bodyOk_valid {p : GP} (h : validE p = 0) {k : Nat} (hk : k < p.rules.length) : BodyOk (ixR p.rules k) := (bodyV_valid h hk).ok
set_option maxHeartbeats 2000000 in
theorem sat_any (v : Value) (r : GR) (m : List Int) (mb : Nat) (w : World) (hr : RuleIs w v r) (h : InM w mb m) (hok : BodyOk r) :
    Calls Tryz.prog 125 #[v, .func (.func 128) #[] #[.pointer (some ⟨mb, 0, none⟩)]] w fun e w' => e = .returned (.bool (satT r m)) ∧ Below w.heap.size w w' := by
  obtain ⟨vh, vb, vw, rfl, hsl⟩ := hr
  have hal := bal (Below.refl w.heap.size w) (.cells #[.bool r.choice, vh, .bool r.sum, .int .i64 r.bound, vb, vw] 60)
  have HBX := Lib.hid (Blk.new w [.bool r.choice, vh, .bool r.sum, .int .i64 r.bound, vb, vw] 60)
  obtain ⟨a1, c1, rfl, -, hl1, -, -⟩ := hsl.head.form
  obtain ⟨a2, c2, rfl, -⟩ := hsl.body.form
  obtain ⟨a3, c3, rfl, -⟩ := hsl.wts.form
  have HR : Hid (RuleIs (w.alloc (.cells #[.bool r.choice, .slice a1 r.head.length c1, .bool r.sum, .int .i64 r.bound, .slice a2 r.body.length c2, .slice a3 r.w.length c3] 60)) (.agg #[.bool r.choice, .slice a1 r.head.length c1, .bool r.sum, .int .i64 r.bound, .slice a2 r.body.length c2, .slice a3 r.w.length c3]) r) := Lib.hid ⟨_, _, _, rfl, hsl.below hal⟩
  have HH := Lib.hid (hsl.head.below hal)
  have HIN := Lib.hid (h.below hal)
  have HOK := Lib.hid hok
  have HAL := Lib.hid hal
  clear hsl h hok hal
  cases hc : r.choice with
  | true =>
    have HF : Hid (satT r m = true) := Lib.hid (by unfold satT; rw [hc]; rfl)
    rw [hc] at HR HBX HH HIN HAL
    clear hc
    go_enter Tryz.func125, Tryz.ntmps125
    go_wp2
    go_ret
    exact ⟨ret_bool HF.out.symm, HAL.out⟩
  | false =>
    have kx := HBX.out.cell
    have hlt := HBX.out.lt
    rw [hc] at HR HBX HH HIN HAL kx hlt
    cases hb : bodyT r m with
    | false =>
      have HF : Hid (satT r m = true) := Lib.hid (by unfold satT; rw [hc, hb]; rfl)
      have HBT := Lib.hid hb
      clear hc hb
      go_enter Tryz.func125, Tryz.ntmps125
      go_wp2_with (go_at_call 78; (with_reducible refine (bodyf_any _ r m mb _ HR.out HIN.out HOK.out).mono ?_); rintro e w1 ⟨e1, hb1⟩; rw [HBT.out] at e1; subst e1)
      go_ret
      exact ⟨ret_bool HF.out.symm, bon HAL.out hb1⟩
    | true =>
      have HF : Hid (satT r m = anyR r.head.length (fun j => decide (ix r.head j ∈ m))) := Lib.hid (by unfold satT; rw [hc, hb]; rfl)
      have HBT := Lib.hid hb
      clear hc hb
      go_enter Tryz.func125, Tryz.ntmps125
      go_wp2_with (first
        | (go_at_call 78; (with_reducible refine (bodyf_any _ r m mb _ HR.out HIN.out HOK.out).mono ?_); rintro e w1 ⟨e1, hb1⟩; rw [HBT.out] at e1; subst e1; have kx1 := fun o => (bcell hb1 _ o hlt).trans (kx o))
        | (go_at_call 76; (with_reducible refine (ctn_hd _ r.head _ (HH.out.below hb1) (fun j => decide (ix r.head j ∈ m)) _ (fun w' hb j hj => (memb1_any _ m mb w' ((HIN.out.below hb1).below hb)).mono fun e w'' ⟨e1, e2⟩ => ⟨e1, e2 ▸ Below.refl _ _⟩)).mono ?_); rintro e w2 ⟨rfl, hb2⟩))
      go_ret
      exact ⟨ret_bool HF.out.symm, bon (bon HAL.out hb1) hb2⟩
theorem brokc_any (v : Value) (r : GR) (m : List Int) (mb cb : Nat) (w : World) (hr : RuleIs w v r) (h : InM w mb m) (hb : Blk w cb [.func (.func 128) #[] #[.pointer (some ⟨mb, 0, none⟩)]] 92) (hok : BodyOk r) :
    Calls Tryz.prog 124 #[v, .pointer (some ⟨cb, 0, none⟩)] w fun e w' => e = .returned (.bool (!satT r m)) ∧ Below w.heap.size w w' := by
  obtain ⟨vh, vb, vw, rfl, hsl⟩ := hr
  have hal := bal (Below.refl w.heap.size w) (.cells #[.bool r.choice, vh, .bool r.sum, .int .i64 r.bound, vb, vw] 60)
  obtain ⟨a1, c1, rfl, -, hl1, -, -⟩ := hsl.head.form
  obtain ⟨a2, c2, rfl, -⟩ := hsl.body.form
  obtain ⟨a3, c3, rfl, -⟩ := hsl.wts.form
  have HR : Hid (RuleIs (w.alloc (.cells #[.bool r.choice, .slice a1 r.head.length c1, .bool r.sum, .int .i64 r.bound, .slice a2 r.body.length c2, .slice a3 r.w.length c3] 60)) (.agg #[.bool r.choice, .slice a1 r.head.length c1, .bool r.sum, .int .i64 r.bound, .slice a2 r.body.length c2, .slice a3 r.w.length c3]) r) := Lib.hid ⟨_, _, _, rfl, hsl.below hal⟩
  have HIN := Lib.hid (h.below hal)
  have HOK := Lib.hid hok
  have kb := hb.cell 0
  have hlt := hb.lt
  have HAL := Lib.hid hal
  clear hsl h hok hb hal
  go_enter Tryz.func124, Tryz.ntmps124
  go_wp2_with (go_at_call 125; (with_reducible refine (sat_any _ r m mb _ HR.out HIN.out HOK.out).mono ?_); rintro e w1 ⟨rfl, hb1⟩)
  go_ret
  exact ⟨rfl, bon HAL.out hb1⟩
set_option maxHeartbeats 1000000 in
theorem idxR_brk (v : Value) (l : List GR) (w : World) (h : RulesIs w v l) (g : Nat → Bool) (cap : Value)
    (hg : ∀ w', Below w.heap.size w w' → ∀ j, j < l.length → ∀ u, RuleIs w' u (ixR l j) → Calls Tryz.prog 124 #[u, cap] w' fun e w'' => e = .returned (.bool (g j)) ∧ Below w'.heap.size w' w'') :
    Calls Tryz.prog 52 #[v, .func (.func 124) #[] #[cap]] w fun e w' => ∃ r, e = .returned (.int .i64 r) ∧ IxP l.length g r ∧ Below w.heap.size w w' := by
  obtain ⟨a1, c1, rfl, -, hl1, -, hcell⟩ := h.form
  have HG := Lib.hid hg
  clear h hg
  go_enter Tryz.func52, Tryz.ntmps52
  go_wp2
  go_loopw [8] (fun i wx => IxR l.length g w i wx) (fun i _ => l.length - (intOf i).toNat)
  case atStart => exact ⟨0, by omega, rfl, fun j hj => absurd hj (Nat.not_lt_zero _), Below.refl _ _⟩
  case round =>
    obtain ⟨k, hk, rfl, hall, hb⟩ := hrel
    have HA := Lib.hid hall
    clear hall
    by_cases hlt : k < l.length
    · obtain ⟨b, off, rfl, hbl, hc⟩ := hcell (by omega)
      obtain ⟨vh, vb, vw, ⟨k0, k1, k2, k3, k4, k5⟩, hsl⟩ := hc k hlt
      have hbr := hsl.below hb
      have hk0 := (bcell hb _ _ hbl).trans k0
      have hk1 := (bcell hb _ _ hbl).trans k1
      have hk2 := (bcell hb _ _ hbl).trans k2
      have hk3 := (bcell hb _ _ hbl).trans k3
      have hk4 := (bcell hb _ _ hbl).trans k4
      have hk5 := (bcell hb _ _ hbl).trans k5
      have HRU : Hid (RuleIs wr (.agg #[.bool (ixR l k).choice, vh, .bool (ixR l k).sum, .int .i64 (ixR l k).bound, vb, vw]) (ixR l k)) := Lib.hid ⟨vh, vb, vw, rfl, hbr⟩
      clear hc hcell k0 k1 k2 k3 k4 k5 hsl hbr
      cases g1 : g k with
      | true =>
        have HK : Hid (_ = true) := Lib.hid g1
        have HC := Lib.hid (HG.out _ hb k hlt _ HRU.out)
        rw [g1] at HC
        clear g1
        go_wp2_with (go_at_call 124; refine (HC.out).mono ?_; rintro e w1 ⟨rfl, hb1⟩)
        go_ret
        exact ⟨_, rfl, .inr ⟨k, hlt, rfl, HK.out, HA.out⟩, bon hb hb1⟩
      | false =>
        have HN := Lib.hid (lt_succ_all HA.out g1)
        have HC := Lib.hid (HG.out _ hb k hlt _ HRU.out)
        rw [g1] at HC
        clear g1
        go_wp2_with (go_at_call 124; refine (HC.out).mono ?_; rintro e w1 ⟨rfl, hb1⟩)
        first
          | (go_roundw
             case rel => (exact ⟨k + 1, by omega, by go_num, HN.out, bon hb hb1⟩)
             case measure => (simp [intOf]; omega))
          | (refine ⟨?_, ?_⟩
             · (exact ⟨k + 1, by omega, by go_num, HN.out, bon hb hb1⟩)
             · (simp [intOf]; omega))
    · have HN : Hid (∀ j, j < l.length → g j = false) := Lib.hid (fun j hj => HA.out j (by omega))
      go_wp2
      go_ret
      exact ⟨_, rfl, .inl ⟨rfl, HN.out⟩, hb⟩
def checkE (p : GP) (m : List Int) : Int := if validE p ≠ 0 then validE p else if setQ p.n m then 0 else 2
set_option maxHeartbeats 1000000 in
theorem rcheck_any (v vm : Value) (p : GP) (m : List Int) (w : World) (h : ProgIs w v p) (hm : Ints w vm m) :
    Calls Tryz.prog 80 #[v, vm] w fun e w' => e = .returned (.int .i64 (checkE p m)) ∧ Below w.heap.size w w' := by
  have h0 := h
  obtain ⟨vn, vs, vr, vmn, rfl, -⟩ := h
  have hal := bal (Below.refl w.heap.size w) (.cells #[.int .i64 p.n, vn, vs, vr, vmn] 27)
  have HBX := Lib.hid (Blk.new w [.int .i64 p.n, vn, vs, vr, vmn] 27)
  have kx := HBX.out.cell
  have hlt := HBX.out.lt
  have HP := Lib.hid (h0.below hal)
  have HM := Lib.hid (hm.below hal)
  have HAL := Lib.hid hal
  obtain ⟨am, cm, rfl, -⟩ := hm.form
  clear h0 hm hal
  by_cases hv : validE p = 0
  · have h1 : (validE p != 0) = false := by simp [hv]
    have h2 : (validE p == 0) = true := by simp [hv]
    cases hs : setQ p.n m with
    | true =>
      have HF : Hid (checkE p m = 0) := Lib.hid (by unfold checkE; rw [if_neg (by simp [hv]), hs]; rfl)
      clear hv
      go_enter Tryz.func80, Tryz.ntmps80
      go_wp2_with (first | (go_at_call 27; (with_reducible refine (valid_any _ p _ HP.out).mono ?_); rintro e w1 ⟨e1, hb1⟩; subst e1; have kx1 := fun o => (bcell hb1 _ o hlt).trans (kx o)) | (go_at_call 30; (with_reducible refine (redSet_any _ p.n m _ (HM.out.below hb1)).mono ?_); rintro e w2 ⟨rfl, rfl⟩))
      go_ret
      exact ⟨ret_int HF.out.symm, bon HAL.out hb1⟩
    | false =>
      have HF : Hid (checkE p m = 2) := Lib.hid (by unfold checkE; rw [if_neg (by simp [hv]), hs]; rfl)
      clear hv
      go_enter Tryz.func80, Tryz.ntmps80
      go_wp2_with (first | (go_at_call 27; (with_reducible refine (valid_any _ p _ HP.out).mono ?_); rintro e w1 ⟨e1, hb1⟩; subst e1; have kx1 := fun o => (bcell hb1 _ o hlt).trans (kx o)) | (go_at_call 30; (with_reducible refine (redSet_any _ p.n m _ (HM.out.below hb1)).mono ?_); rintro e w2 ⟨rfl, rfl⟩))
      go_ret
      exact ⟨ret_int HF.out.symm, bon HAL.out hb1⟩
  · have h1 : (validE p != 0) = true := by simp [hv]
    have h2 : (validE p == 0) = false := by simp [hv]
    have HF : Hid (checkE p m = validE p) := Lib.hid (by unfold checkE; rw [if_pos hv])
    clear hv
    go_enter Tryz.func80, Tryz.ntmps80
    go_wp2_with (first | (go_at_call 27; (with_reducible refine (valid_any _ p _ HP.out).mono ?_); rintro e w1 ⟨e1, hb1⟩; subst e1; have kx1 := fun o => (bcell hb1 _ o hlt).trans (kx o)) | (go_at_call 30; (with_reducible refine (redSet_any _ p.n m _ (HM.out.below hb1)).mono ?_); rintro e w2 ⟨rfl, rfl⟩))
    go_ret
    exact ⟨ret_int HF.out.symm, bon HAL.out hb1⟩
def BrokPost (p : GP) (m : List Int) (w : World) (e : Ending) (w' : World) : Prop :=
  ∃ r : Int, e = .returned (.tuple #[.int .i64 r, .int .i64 (checkE p m)]) ∧ (checkE p m ≠ 0 → r = 0) ∧ (checkE p m = 0 → IxP p.rules.length (fun i => !satT (ixR p.rules i) m) r) ∧ Below w.heap.size w w'
theorem checkE_ok {p : GP} {m : List Int} (h : checkE p m = 0) : validE p = 0 ∧ setQ p.n m = true := by
  unfold checkE at h
  split at h
  · rename_i h1; exact absurd h h1
  · rename_i h1
    split at h
    · rename_i h2; exact ⟨Decidable.not_not.1 h1, h2⟩
    · cases h
theorem inc_le {l : List Int} {n : Int} (h : setQ n l = true) (hn : 0 ≤ n) : (l.length : Int) ≤ n := by
  have hp : l.Pairwise (· < ·) := by
    rw [List.pairwise_iff_getElem]
    intro i j hi hj hij
    have key : ∀ d : Nat, ∀ i : Nat, i + d + 1 < l.length → ix l i < ix l (i + d + 1) := by
      intro d
      induction d with
      | zero =>
        intro i hi
        have := allR_get h (i + 1) (by omega)
        unfold setTo at this
        simp only [Bool.and_eq_true, Bool.or_eq_true, decide_eq_true_eq, beq_iff_eq, Nat.add_sub_cancel] at this
        exact this.2.resolve_left (by omega)
      | succ d ih =>
        intro i hi
        have h1 := ih i (by omega)
        have := allR_get h (i + d + 1 + 1) (by omega)
        unfold setTo at this
        simp only [Bool.and_eq_true, Bool.or_eq_true, decide_eq_true_eq, beq_iff_eq, Nat.add_sub_cancel] at this
        have h2 := this.2.resolve_left (by omega)
        exact Int.lt_trans h1 h2
    have := key (j - i - 1) i (by omega)
    rw [show i + (j - i - 1) + 1 = j by omega] at this
    simpa [ix, List.getD_eq_getElem?_getD, List.getElem?_eq_getElem hi, List.getElem?_eq_getElem hj] using this
  have := lt_length l 1 (n + 1) hp (fun x hx => by
    obtain ⟨j, hj, rfl⟩ := List.mem_iff_getElem.1 hx
    have := allR_get h j hj
    unfold setTo at this
    simp only [Bool.and_eq_true, decide_eq_true_eq] at this
    have e : ix l j = l[j] := by simp [ix, List.getD_eq_getElem?_getD, List.getElem?_eq_getElem hj]
    rw [e] at this
    omega) (by omega)
  omega
set_option maxHeartbeats 1000000 in
theorem broken_any (v vm : Value) (p : GP) (m : List Int) (w : World) (h : ProgIs w v p) (hm : Ints w vm m) :
    Calls Tryz.prog 75 #[v, vm] w (BrokPost p m w) := by
  have h0 := h
  obtain ⟨vn, vs, vr, vmn, rfl, hps⟩ := h
  have hal := bal (Below.refl w.heap.size w) (.cells #[.int .i64 p.n, vn, vs, vr, vmn] 27)
  have HBX := Lib.hid (Blk.new w [.int .i64 p.n, vn, vs, vr, vmn] 27)
  have kx := HBX.out.cell
  have hlt := HBX.out.lt
  have HP := Lib.hid (h0.below hal)
  have HM := Lib.hid (hm.below hal)
  have HRU := Lib.hid (hps.rules.below hal)
  obtain ⟨a1, c1, rfl, -⟩ := hps.rules.form
  have HAL := Lib.hid hal
  obtain ⟨am, cm, rfl, -⟩ := hm.form
  clear h0 hm hal hps
  by_cases hv : checkE p m = 0
  · have h1 : (checkE p m != 0) = false := by simp [hv]
    have HC := Lib.hid hv
    have HML : Hid (m.length ≤ 1000000000) := Lib.hid (by have h2 := checkE_ok hv; have h3 := inc_le h2.2 (validP h2.1).n.1; have := (validP h2.1).n; omega)
    have HOK : Hid (∀ k, k < p.rules.length → BodyOk (ixR p.rules k)) := Lib.hid (fun k hk => bodyOk_valid (checkE_ok hv).1 hk)
    clear hv
    go_enter Tryz.func75, Tryz.ntmps75
    go_wp2_with (first
      | (go_at_call 80; (with_reducible refine (rcheck_any _ _ p m _ HP.out HM.out).mono ?_); rintro e w1 ⟨rfl, hb1⟩; have kx1 := fun o => (bcell hb1 _ o hlt).trans (kx o); have hz1 := hb1.size)
      | (go_at_call 79; (with_reducible refine (member_any _ m _ (HM.out.below hb1) HML.out).mono ?_); rintro e w2 ⟨mb, rfl, hin, hb2⟩; have HIN := Lib.hid hin; have kx2 := fun o => (bcell hb2 _ o (Nat.lt_of_lt_of_le hlt hz1)).trans (kx1 o); have hlt2 := Nat.lt_of_lt_of_le hlt (Nat.le_trans hz1 hb2.size); clear hin)
      | (go_at_call 52; (with_reducible refine (idxR_brk _ p.rules _ (HRU.out.below (bon hb1 (bal hb2 _))) (fun i => !satT (ixR p.rules i) m) _ (fun w' hb j hj u hu => brokc_any u _ m mb _ w' hu ((HIN.out.below (bal (Below.refl _ _) _)).below hb) ((Blk.new w2 _ _).below hb) (HOK.out j hj))).mono ?_); rintro e w3 ⟨r, rfl, hr, hb3⟩; have HRR := Lib.hid hr; clear hr))
    go_ret2
    exact ⟨r, by rw [HC.out]; rfl, fun hne => absurd HC.out hne, fun _ => HRR.out, bon (bon HAL.out (bon hb1 (bal hb2 _))) hb3⟩
  · have h1 : (checkE p m != 0) = true := by simp [hv]
    have HC := Lib.hid hv
    clear hv
    go_enter Tryz.func75, Tryz.ntmps75
    go_wp2_with (first
      | (go_at_call 80; (with_reducible refine (rcheck_any _ _ p m _ HP.out HM.out).mono ?_); rintro e w1 ⟨rfl, hb1⟩; have kx1 := fun o => (bcell hb1 _ o hlt).trans (kx o)))
    go_ret2
    exact ⟨0, rfl, fun _ => rfl, fun h => absurd h HC.out, bon HAL.out hb1⟩
def modelsB (p : GP) (m : List Int) : Bool := allR p.rules.length (fun i => satT (ixR p.rules i) m)
set_option maxHeartbeats 1000000 in
theorem models_any (v vm : Value) (p : GP) (m : List Int) (w : World) (h : ProgIs w v p) (hm : Ints w vm m) :
    Calls Tryz.prog 31 #[v, vm] w fun e w' => e = .returned (.tuple #[.bool (decide (checkE p m = 0) && modelsB p m), .int .i64 (checkE p m)]) ∧ Below w.heap.size w w' := by
  have h0 := h
  obtain ⟨vn, vs, vr, vmn, rfl, hps⟩ := h
  have hal := bal (Below.refl w.heap.size w) (.cells #[.int .i64 p.n, vn, vs, vr, vmn] 27)
  have HP := Lib.hid (h0.below hal)
  have HM := Lib.hid (hm.below hal)
  have HAL := Lib.hid hal
  obtain ⟨am, cm, rfl, -⟩ := hm.form
  clear h0 hm hal hps
  by_cases hv : checkE p m = 0
  · have h1 : (checkE p m == 0) = true := by simp [hv]
    have HC := Lib.hid hv
    clear hv
    have HB : Hid (∀ r, IxP p.rules.length (fun i => !satT (ixR p.rules i) m) r → decide (r < 0) = modelsB p m) := Lib.hid (fun r hr => by
      have := hr.any
      unfold modelsB
      rw [← allR_not, ← this]
      by_cases h0 : 0 ≤ r
      · rw [decide_eq_false (by omega), decide_eq_true h0]; rfl
      · rw [decide_eq_true (by omega), decide_eq_false h0]; rfl)
    go_enter Tryz.func31, Tryz.ntmps31
    go_wp2_with (go_at_call 75; (with_reducible refine (broken_any _ _ p m _ HP.out HM.out).mono ?_); rintro e w1 ⟨r, rfl, hr1, hr2, hb1⟩; have HRR := Lib.hid (hr2 HC.out); clear hr1 hr2)
    go_ret2
    refine ⟨?_, bon HAL.out hb1⟩
    have e := HB.out r HRR.out
    first
      | (show Ending.returned (.tuple #[.bool (modelsB p m), .int .i64 (checkE p m)]) = _; rw [decide_eq_true HC.out, Bool.true_and])
      | (show Ending.returned (.tuple #[.bool (decide (r < 0)), .int .i64 (checkE p m)]) = _; rw [decide_eq_true HC.out, Bool.true_and, e])
  · have h1 : (checkE p m == 0) = false := by simp [hv]
    have HC := Lib.hid hv
    clear hv
    go_enter Tryz.func31, Tryz.ntmps31
    go_wp2_with (go_at_call 75; (with_reducible refine (broken_any _ _ p m _ HP.out HM.out).mono ?_); rintro e w1 ⟨r, rfl, hr1, hr2, hb1⟩; have HRR := Lib.hid (hr1 HC.out); clear hr1 hr2)
    go_ret2
    refine ⟨?_, bon HAL.out hb1⟩
    show Ending.returned (.tuple #[.bool false, .int .i64 (checkE p m)]) = _
    rw [decide_eq_false HC.out]; rfl
end Go.Proofs.YtfajkmmmmmfhiaaGreatDoor
