/- The reduct and its least model against founded and supported sets (plain). -/
import Derived.Test.YtdoecchigfdilaaCm2Q
import Derived.Test.YtdoecchigfdilaaCm3Q
import Derived.Test.YtdoecchigfdilaaMD
import Derived.Test.YtdoecchigfdilaaME
namespace Go.Proofs.Ytdoecchigfdilaa
open Go.RowKit

/-! ### The reduct -/
/-- The positive literals among the first k, with their weights. -/
def posP (r : GR) : Nat → List (Int × Int)
  | 0 => []
  | k + 1 => if 0 < ix r.body k then posP r k ++ [(ix r.body k, ix r.w k)] else posP r k

/-- The weights of the negative literals that are true, among the first k. -/
def negW (m : List Int) (r : GR) : Nat → Int
  | 0 => 0
  | k + 1 => negW m r k + if ix r.body k < 0 ∧ -(ix r.body k) ∉ m then ix r.w k else 0

def fstL (l : List (Int × Int)) : List Int := l.map (·.1)
def sndL (l : List (Int × Int)) : List Int := l.map (·.2)

def emptyR : GR := ⟨false, [], false, 0, [], []⟩

/-- A negative literal among the first k is false. -/
def negF (m : List Int) (r : GR) (k : Nat) : Bool := anyR k (fun j => decide (ix r.body j < 0) && decide (-(ix r.body j) ∈ m))

/-- The rule under way. -/
def redAt (m : List Int) (r : GR) (k : Nat) : GR := ⟨false, [], r.sum, r.bound - (if r.sum then negW m r k else 0), fstL (posP r k), if r.sum then sndL (posP r k) else []⟩

/-- The reduced rule, without a head. -/
def redB (m : List Int) (r : GR) : Option GR :=
  if r.sum = false ∧ negF m r r.body.length = true then none
  else if r.sum = true ∧ r.bound - negW m r r.body.length ≤ 0 then some emptyR
  else some (redAt m r r.body.length)

def withHead (x : GR) (h : List Int) : GR := { x with head := h }

/-- What comes of one rule. -/
def redR (m : List Int) (r : GR) : List GR :=
  match redB m r with
  | none => []
  | some x => if r.choice then (r.head.filter (fun a => decide (a ∈ m))).map (fun a => withHead x [a]) else [withHead x r.head]

def redTo (p : GP) (m : List Int) : Nat → List GR
  | 0 => []
  | k + 1 => redTo p m k ++ redR m (ixR p.rules k)
def redL (p : GP) (m : List Int) : List GR := redTo p m p.rules.length

/-! ### Bodies under a smaller set -/
def hlT (T m : List Int) (l : Int) : Bool := if 0 < l then decide (l ∈ T) else !decide (-l ∈ m)
def avW (T m : List Int) (r : GR) : Nat → Int
  | 0 => 0
  | k + 1 => avW T m r k + if hlT T m (ix r.body k) then ix r.w k else 0
def avT (T m : List Int) (r : GR) : Bool := if r.sum then decide (r.bound ≤ avW T m r r.body.length) else allR r.body.length (fun j => hlT T m (ix r.body j))

theorem avW_self (m : List Int) (r : GR) : ∀ k, avW m m r k = wsum m r k
  | 0 => rfl
  | k + 1 => by unfold avW wsum; rw [avW_self m r k]; rfl

theorem avT_self (m : List Int) (r : GR) : avT m m r = bodyT r m := by
  unfold avT bodyT
  rw [avW_self]
  rfl

theorem hlT_mono {T T' m : List Int} (h : ∀ x ∈ T, x ∈ T') {l : Int} (hl : hlT T m l = true) : hlT T' m l = true := by
  unfold hlT at *
  split at hl
  · rename_i h0
    rw [if_pos h0]
    exact decide_eq_true (h _ (of_decide_eq_true hl))
  · rename_i h0
    rw [if_neg h0]
    exact hl

theorem avW_mono {T T' m : List Int} {r : GR} (h : ∀ x ∈ T, x ∈ T') (hw : ∀ k, k < r.body.length → 0 ≤ ix r.w k) : ∀ k, k ≤ r.body.length → avW T m r k ≤ avW T' m r k
  | 0, _ => Int.le_refl _
  | k + 1, hk => by
    have ih := avW_mono (m := m) h hw k (by omega)
    have h0 := hw k (by omega)
    unfold avW
    by_cases e : hlT T m (ix r.body k) = true
    · rw [if_pos e, if_pos (hlT_mono h e)]; omega
    · rw [if_neg e]; split <;> omega

/-- A body with the bounds of a valid rule. -/
structure BodyW (r : GR) (n : Int) : Prop where
  v : BodyV r n
  lit : ∀ j, j < r.body.length → ix r.body j ≠ 0 ∧ -n ≤ ix r.body j ∧ ix r.body j ≤ n
  wts : r.sum = true → r.w.length = r.body.length ∧ ∀ k, k < r.body.length → 1 ≤ ix r.w k ∧ ix r.w k ≤ 1048576 - sumTo r.w k
  bound : r.bound ≤ 1048576

theorem BodyV.full {r : GR} {n : Int} (h : BodyV r n) (hb : r.bound ≤ 1048576) : BodyW r n where
  v := h
  lit := fun j hj => ordered_lit h.ord (ix_mem hj)
  wts := fun hs => by
    have := h.sum hs
    unfold weightsB at this
    rw [Bool.and_eq_true, decide_eq_true_eq] at this
    obtain ⟨h1, h2⟩ := this
    have h3 : r.w.length = r.body.length := by omega
    exact ⟨h3, fun k hk => of_decide_eq_true (allR_get h1 k (by omega))⟩
  bound := hb

theorem avT_mono {T T' m : List Int} {r : GR} {n : Int} (h : ∀ x ∈ T, x ∈ T') (hr : BodyW r n) (ha : avT T m r = true) : avT T' m r = true := by
  unfold avT at *
  cases hs : r.sum with
  | true =>
    rw [hs] at ha
    rw [if_pos rfl] at ha ⊢
    rw [decide_eq_true_eq] at ha ⊢
    exact Int.le_trans ha (avW_mono h (fun k hk => by have := ((hr.wts hs).2 k hk).1; omega) _ (Nat.le_refl _))
  | false =>
    rw [hs] at ha
    rw [if_neg (by simp)] at ha ⊢
    exact allR_true fun j hj => hlT_mono h (allR_get ha j hj)

/-! ### What the reduced rule asks -/
theorem lhsTo_agree {T : List Int} {r r' : GR} : ∀ k, (∀ j, j < k → ix r.body j = ix r'.body j ∧ wOf r j = wOf r' j) → lhsTo T r k = lhsTo T r' k
  | 0, _ => rfl
  | k + 1, h => by
    unfold lhsTo
    rw [lhsTo_agree k (fun j hj => h j (by omega)), (h k (by omega)).1, (h k (by omega)).2]

theorem ix_snoc (l : List Int) (x : Int) : ix (l ++ [x]) l.length = x := by simp [ix]
theorem ix_snoc_lt {l : List Int} (x : Int) {j : Nat} (hj : j < l.length) : ix (l ++ [x]) j = ix l j := by
  simp [ix, List.getD_eq_getElem?_getD, List.getElem?_append_left hj]

theorem fstL_snoc (l : List (Int × Int)) (x : Int × Int) : fstL (l ++ [x]) = fstL l ++ [x.1] := by simp [fstL]
theorem sndL_snoc (l : List (Int × Int)) (x : Int × Int) : sndL (l ++ [x]) = sndL l ++ [x.2] := by simp [sndL]
theorem fstL_len (l : List (Int × Int)) : (fstL l).length = l.length := by simp [fstL]
theorem sndL_len (l : List (Int × Int)) : (sndL l).length = l.length := by simp [sndL]

/-- What the positive literals in T pay, among the first k. -/
def payP (T : List Int) (r : GR) : Nat → Int
  | 0 => 0
  | k + 1 => payP T r k + if 0 < ix r.body k ∧ ix r.body k ∈ T then ix r.w k else 0

theorem lhs_posP (T : List Int) (r : GR) (bd : Int) : ∀ k, lhsTo T ⟨false, [], true, bd, fstL (posP r k), sndL (posP r k)⟩ (posP r k).length = payP T r k
  | 0 => rfl
  | k + 1 => by
    have ih := lhs_posP T r bd k
    unfold posP payP
    by_cases h0 : 0 < ix r.body k
    · rw [if_pos h0, List.length_append, List.length_singleton]
      show lhsTo T _ (posP r k).length + (if ix (fstL (posP r k ++ [(ix r.body k, ix r.w k)])) (posP r k).length ∈ T then ix (sndL (posP r k ++ [(ix r.body k, ix r.w k)])) (posP r k).length else 0) = _
      have e1 : ix (fstL (posP r k ++ [(ix r.body k, ix r.w k)])) (posP r k).length = ix r.body k := by
        rw [fstL_snoc, ← fstL_len (posP r k), ix_snoc]
      have e2 : ix (sndL (posP r k ++ [(ix r.body k, ix r.w k)])) (posP r k).length = ix r.w k := by
        rw [sndL_snoc, ← sndL_len (posP r k), ix_snoc]
      rw [e1, e2, ← ih]
      congr 1
      · refine lhsTo_agree _ fun j hj => ⟨?_, ?_⟩
        · show ix (fstL _) j = ix (fstL _) j
          rw [fstL_snoc, ix_snoc_lt _ (by rw [fstL_len]; exact hj)]
        · show ix (sndL _) j = ix (sndL _) j
          rw [sndL_snoc, ix_snoc_lt _ (by rw [sndL_len]; exact hj)]
      · simp only [h0, true_and]
    · rw [if_neg h0, if_neg (fun h => h0 h.1)]
      omega

theorem avW_parts {T m : List Int} {r : GR} (h : ∀ j, j < r.body.length → ix r.body j ≠ 0) : ∀ k, k ≤ r.body.length → avW T m r k = negW m r k + payP T r k
  | 0, _ => rfl
  | k + 1, hk => by
    have ih := avW_parts (T := T) (m := m) h k (by omega)
    have h0 := h k (by omega)
    unfold avW negW payP hlT
    rw [ih]
    by_cases e : 0 < ix r.body k
    · rw [if_pos e, if_neg (show ¬ (ix r.body k < 0 ∧ -(ix r.body k) ∉ m) from fun h => by omega)]
      simp only [e, true_and, decide_eq_true_eq]
      omega
    · rw [if_neg e, if_neg (show ¬ (0 < ix r.body k ∧ ix r.body k ∈ T) from fun h => e h.1)]
      have e2 : ix r.body k < 0 := by omega
      simp only [e2, true_and, Bool.not_eq_true', decide_eq_false_iff_not]
      omega

theorem payP_nonneg {T : List Int} {r : GR} (hw : ∀ k, k < r.body.length → 0 ≤ ix r.w k) : ∀ k, k ≤ r.body.length → 0 ≤ payP T r k
  | 0, _ => Int.le_refl _
  | k + 1, hk => by
    have ih := payP_nonneg (T := T) hw k (by omega)
    have := hw k (by omega)
    unfold payP; split <;> omega

theorem negW_nonneg {m : List Int} {r : GR} (hw : ∀ k, k < r.body.length → 0 ≤ ix r.w k) : ∀ k, k ≤ r.body.length → 0 ≤ negW m r k
  | 0, _ => Int.le_refl _
  | k + 1, hk => by
    have ih := negW_nonneg (m := m) hw k (by omega)
    have := hw k (by omega)
    unfold negW; split <;> omega

theorem posP_mem {r : GR} {y : Int × Int} : ∀ k, y ∈ posP r k ↔ ∃ j, j < k ∧ 0 < ix r.body j ∧ y = (ix r.body j, ix r.w j)
  | 0 => by simp [posP]
  | k + 1 => by
    have ih := posP_mem (r := r) (y := y) k
    unfold posP
    split
    · rename_i h0
      rw [List.mem_append, List.mem_singleton, ih]
      constructor
      · rintro (⟨j, hj, h1, h2⟩ | rfl)
        · exact ⟨j, by omega, h1, h2⟩
        · exact ⟨k, by omega, h0, rfl⟩
      · rintro ⟨j, hj, h1, h2⟩
        by_cases e : j = k
        · subst e; exact .inr h2
        · exact .inl ⟨j, by omega, h1, h2⟩
    · rename_i h0
      rw [ih]
      constructor
      · rintro ⟨j, hj, h1, h2⟩; exact ⟨j, by omega, h1, h2⟩
      · rintro ⟨j, hj, h1, h2⟩
        by_cases e : j = k
        · subst e; exact absurd h1 h0
        · exact ⟨j, by omega, h1, h2⟩

theorem posP_len (r : GR) : ∀ k, (posP r k).length ≤ k
  | 0 => Nat.le_refl _
  | k + 1 => by
    have := posP_len r k
    unfold posP; split
    · rw [List.length_append, List.length_singleton]; omega
    · omega

theorem withHead_need (x : GR) (h : List Int) (T : List Int) : need0 (withHead x h) = need0 x ∧ lhs T (withHead x h) = lhs T x := by
  refine ⟨rfl, ?_⟩
  unfold lhs
  exact lhsTo_agree _ fun j _ => ⟨rfl, rfl⟩

theorem red_none {m : List Int} {r : GR} (T : List Int) (h : redB m r = none) : avT T m r = false := by
  unfold redB at h
  split at h
  · rename_i h1
    unfold avT
    rw [if_neg (by rw [h1.1]; simp)]
    obtain ⟨h2, h3⟩ := h1
    unfold negF anyR at h3
    obtain ⟨j, hj, h4⟩ := List.any_eq_true.1 h3
    rw [Bool.and_eq_true, decide_eq_true_eq, decide_eq_true_eq] at h4
    refine allR_false j (List.mem_range.1 hj) ?_
    unfold hlT
    rw [if_neg (by omega), decide_eq_true h4.2]
    rfl
  · split at h <;> cases h

theorem red_some {m : List Int} {r x : GR} {n : Int} (T : List Int) (hr : BodyW r n) (h : redB m r = some x) : need0 x ≤ lhs T x ↔ avT T m r = true := by
  have hlit := hr.lit
  unfold redB at h
  split at h
  · cases h
  · rename_i h1
    cases hs : r.sum with
    | true =>
      have hw : ∀ k, k < r.body.length → 0 ≤ ix r.w k := fun k hk => by have := ((hr.wts hs).2 k hk).1; omega
      have e1 : avT T m r = decide (r.bound ≤ avW T m r r.body.length) := by unfold avT; rw [if_pos hs]
      rw [e1, decide_eq_true_eq, avW_parts (fun j hj => (hlit j hj).1) _ (Nat.le_refl _)]
      have hp := payP_nonneg (T := T) hw _ (Nat.le_refl _)
      split at h
      · rename_i h2
        cases h
        have : need0 emptyR = 0 := rfl
        have : lhs T emptyR = 0 := rfl
        omega
      · cases h
        have e2 : redAt m r r.body.length = ⟨false, [], true, r.bound - negW m r r.body.length, fstL (posP r r.body.length), sndL (posP r r.body.length)⟩ := by
          unfold redAt; rw [hs]; rfl
        rw [e2]
        have e3 := lhs_posP T r (r.bound - negW m r r.body.length) r.body.length
        unfold lhs
        show r.bound - negW m r r.body.length ≤ lhsTo T _ (fstL (posP r r.body.length)).length ↔ _
        rw [fstL_len, e3]
        omega
    | false =>
      rw [if_neg (by rw [hs]; simp)] at h
      cases h
      have e1 : avT T m r = allR r.body.length (fun j => hlT T m (ix r.body j)) := by unfold avT; rw [if_neg (by rw [hs]; simp)]
      rw [e1]
      have hx : (redAt m r r.body.length).sum = false := hs
      have h2 := (lhs_all (M := T) hx (redAt m r r.body.length).body.length).2
      have h3 : need0 (redAt m r r.body.length) = (redAt m r r.body.length).body.length := by unfold need0; rw [if_neg (by rw [hx]; simp)]
      rw [h3]
      unfold lhs
      rw [h2]
      constructor
      · intro h4
        refine allR_true fun j hj => ?_
        unfold hlT
        by_cases e : 0 < ix r.body j
        · rw [if_pos e]
          have h5 : ix r.body j ∈ fstL (posP r r.body.length) := List.mem_map.2 ⟨_, (posP_mem _).2 ⟨j, hj, e, rfl⟩, rfl⟩
          obtain ⟨q, hq, h6⟩ := mem_ix.1 h5
          exact decide_eq_true (h6 ▸ h4 q hq)
        · rw [if_neg e]
          have h5 := (hlit j hj).1
          have h6 : negF m r r.body.length = false := by
            cases hn : negF m r r.body.length with
            | false => rfl
            | true => exact absurd ⟨hs, hn⟩ h1
          have h7 : (decide (ix r.body j < 0) && decide (-(ix r.body j) ∈ m)) = false := by
            have := List.any_eq_false.1 h6 j (List.mem_range.2 hj)
            simpa using this
          rw [decide_eq_true (show ix r.body j < 0 by omega), Bool.true_and] at h7
          rw [h7]; rfl
      · intro h4 q hq
        have h5 : ix (fstL (posP r r.body.length)) q ∈ fstL (posP r r.body.length) := ix_mem hq
        obtain ⟨y, hy, h6⟩ := List.mem_map.1 h5
        obtain ⟨j, hj, h7, rfl⟩ := (posP_mem _).1 hy
        have h8 := allR_get h4 j hj
        unfold hlT at h8
        rw [if_pos h7, decide_eq_true_eq] at h8
        show ix (fstL (posP r r.body.length)) q ∈ T
        rw [← h6]; exact h8

/-! ### The rules of the reduct -/
theorem redTo_mem {p : GP} {m : List Int} {y : GR} : ∀ k, y ∈ redTo p m k ↔ ∃ i, i < k ∧ y ∈ redR m (ixR p.rules i)
  | 0 => by simp [redTo]
  | k + 1 => by
    unfold redTo
    rw [List.mem_append, redTo_mem k]
    constructor
    · rintro (⟨i, hi, h⟩ | h)
      · exact ⟨i, by omega, h⟩
      · exact ⟨k, by omega, h⟩
    · rintro ⟨i, hi, h⟩
      by_cases e : i = k
      · subst e; exact .inr h
      · exact .inl ⟨i, by omega, h⟩

theorem redR_mem {m : List Int} {r y : GR} : y ∈ redR m r ↔ ∃ x h, redB m r = some x ∧ y = withHead x h ∧ ((r.choice = true ∧ ∃ a, a ∈ r.head ∧ a ∈ m ∧ h = [a]) ∨ (r.choice = false ∧ h = r.head)) := by
  unfold redR
  cases hx : redB m r with
  | none => simp
  | some x =>
    cases hc : r.choice with
    | true =>
      simp only [if_true, List.mem_map, List.mem_filter, decide_eq_true_eq, Option.some.injEq]
      constructor
      · rintro ⟨a, ⟨h1, h2⟩, rfl⟩
        exact ⟨x, [a], rfl, rfl, .inl ⟨by first | trivial | rfl, a, h1, h2, rfl⟩⟩
      · rintro ⟨x', h, rfl, rfl, (⟨-, a, h1, h2, rfl⟩ | ⟨e, -⟩)⟩
        · exact ⟨a, ⟨h1, h2⟩, rfl⟩
        · cases e
    | false =>
      simp only [Bool.false_eq_true, if_false, List.mem_singleton, Option.some.injEq]
      constructor
      · rintro rfl
        exact ⟨x, r.head, rfl, rfl, .inr ⟨by first | trivial | rfl, rfl⟩⟩
      · rintro ⟨x', h, rfl, rfl, (⟨e, -⟩ | ⟨-, rfl⟩)⟩
        · cases e
        · rfl

/-- A set is closed under the reduct exactly if each rule whose body it reaches has its heads (of a choice: those in m) in it. -/
theorem closed_red {p : GP} {m T : List Int} (hB : ∀ i, i < p.rules.length → BodyW (ixR p.rules i) p.n) :
    ClosedD (redL p m) T ↔ ∀ i, i < p.rules.length → avT T m (ixR p.rules i) = true → ∀ x ∈ (ixR p.rules i).head, ((ixR p.rules i).choice = true → x ∈ m) → x ∈ T := by
  constructor
  · intro h i hi ha x hx hc
    cases hr : redB m (ixR p.rules i) with
    | none => rw [red_none T hr] at ha; cases ha
    | some y =>
      have hn := (red_some T (hB i hi) hr).2 ha
      cases hch : (ixR p.rules i).choice with
      | true =>
        have h1 : withHead y [x] ∈ redL p m := (redTo_mem _).2 ⟨i, hi, redR_mem.2 ⟨y, [x], hr, rfl, .inl ⟨hch, x, hx, hc hch, rfl⟩⟩⟩
        obtain ⟨q, hq, e⟩ := ixR_of_mem h1
        have h2 := h q hq
        rw [e, (withHead_need y [x] T).1, (withHead_need y [x] T).2] at h2
        exact h2 hn x (List.mem_singleton.2 rfl)
      | false =>
        have h1 : withHead y (ixR p.rules i).head ∈ redL p m := (redTo_mem _).2 ⟨i, hi, redR_mem.2 ⟨y, _, hr, rfl, .inr ⟨hch, rfl⟩⟩⟩
        obtain ⟨q, hq, e⟩ := ixR_of_mem h1
        have h2 := h q hq
        rw [e, (withHead_need y _ T).1, (withHead_need y _ T).2] at h2
        exact h2 hn x hx
  · intro h q hq hn x hx
    have h1 : ixR (redL p m) q ∈ redL p m := ixR_mem hq
    obtain ⟨i, hi, h2⟩ := (redTo_mem _).1 h1
    obtain ⟨y, hd, hr, e, h3⟩ := redR_mem.1 h2
    rw [e, (withHead_need y _ T).1, (withHead_need y _ T).2] at hn
    rw [e] at hx
    have ha := (red_some T (hB i hi) hr).1 hn
    rcases h3 with ⟨hc, a, h4, h5, rfl⟩ | ⟨hc, rfl⟩
    · obtain rfl := List.mem_singleton.1 (show x ∈ [a] from hx)
      exact h i hi ha x h4 (fun _ => h5)
    · exact h i hi ha x hx (fun e => by rw [hc] at e; cases e)

/-! ### The reduct is definite -/
theorem ord_of_sorted {n : Int} {l : List Int} (h : l.Pairwise (· < ·)) (hr : ∀ x ∈ l, 1 ≤ x ∧ x ≤ n) : orderedB l n = true := by
  unfold orderedB
  refine allR_true fun j hj => ?_
  unfold okAt
  have h1 := hr _ (ix_mem hj)
  rw [Bool.and_eq_true]
  refine ⟨by unfold litB; exact decide_eq_true (by omega), ?_⟩
  rw [Bool.or_eq_true]
  rcases Nat.eq_zero_or_pos j with h0 | h0
  · exact .inl (by simp [h0])
  · refine .inr (decide_eq_true ?_)
    have h2 := List.pairwise_iff_getElem.1 h (j - 1) j (by omega) hj (by omega)
    have e : ∀ k, (hk : k < l.length) → ix l k = l[k] := fun k hk => by simp [ix, List.getD_eq_getElem?_getD, List.getElem?_eq_getElem hk]
    have h3 := hr _ (ix_mem (show j - 1 < l.length by omega))
    rw [← e j hj, ← e (j - 1) (by omega)] at h2
    unfold ordI orI cmpI
    grind

theorem posP_sorted {r : GR} {n : Int} (h : orderedB r.body n = true) : ∀ k, k ≤ r.body.length → (fstL (posP r k)).Pairwise (· < ·)
  | 0, _ => by simp [posP, fstL]
  | k + 1, hk => by
    have ih := posP_sorted h k (by omega)
    unfold posP
    split
    · rename_i h0
      rw [fstL_snoc]
      refine List.pairwise_append.2 ⟨ih, by simp, fun x hx y hy => ?_⟩
      obtain rfl := List.mem_singleton.1 hy
      obtain ⟨z, hz, rfl⟩ := List.mem_map.1 hx
      obtain ⟨j, hj, h1, rfl⟩ := (posP_mem _).1 hz
      have h2 := ordered_lt h k (by omega) j hj
      unfold litKey at h2
      rw [if_pos (show 0 ≤ ix r.body j by omega), if_pos (show 0 ≤ ix r.body k by omega)] at h2
      show ix r.body j < ix r.body k
      omega
    · exact ih

theorem sumTo_congr {l l' : List Int} : ∀ k, (∀ j, j < k → ix l j = ix l' j) → sumTo l k = sumTo l' k
  | 0, _ => rfl
  | k + 1, h => by unfold sumTo; rw [sumTo_congr k (fun j hj => h j (by omega)), h k (by omega)]

theorem posP_weights {r : GR} (hw : ∀ k, k < r.body.length → 1 ≤ ix r.w k ∧ ix r.w k ≤ 1048576 - sumTo r.w k) : ∀ k, k ≤ r.body.length →
    sumTo (sndL (posP r k)) (posP r k).length ≤ sumTo r.w k ∧ ∀ j, j < (posP r k).length → 1 ≤ ix (sndL (posP r k)) j ∧ ix (sndL (posP r k)) j ≤ 1048576 - sumTo (sndL (posP r k)) j
  | 0, _ => by simp [posP, sumTo]
  | k + 1, hk => by
    obtain ⟨h1, h2⟩ := posP_weights hw k (by omega)
    have h3 := hw k (by omega)
    have e5 : sumTo r.w (k + 1) = sumTo r.w k + ix r.w k := rfl
    unfold posP
    split
    · have e1 : ∀ j, j < (posP r k).length → ix (sndL (posP r k ++ [(ix r.body k, ix r.w k)])) j = ix (sndL (posP r k)) j := fun j hj => by
        rw [sndL_snoc, ix_snoc_lt _ (by rw [sndL_len]; exact hj)]
      have e2 : ix (sndL (posP r k ++ [(ix r.body k, ix r.w k)])) (posP r k).length = ix r.w k := by
        rw [sndL_snoc, ← sndL_len (posP r k), ix_snoc]
      have e3 : ∀ j, j ≤ (posP r k).length → sumTo (sndL (posP r k ++ [(ix r.body k, ix r.w k)])) j = sumTo (sndL (posP r k)) j := fun j hj => sumTo_congr j fun i hi => e1 i (by omega)
      rw [List.length_append, List.length_singleton]
      refine ⟨?_, fun j hj => ?_⟩
      · show sumTo _ (posP r k).length + ix _ (posP r k).length ≤ _
        rw [e3 _ (Nat.le_refl _), e2]
        omega
      · by_cases e : j = (posP r k).length
        · subst e
          rw [e2, e3 _ (Nat.le_refl _)]
          omega
        · rw [e1 j (by omega), e3 j (by omega)]
          exact h2 j (by omega)
    · refine ⟨?_, h2⟩
      omega

theorem ruleE_zero {r : GR} {n : Int} (hn : 0 ≤ n ∧ n ≤ 4000) (h1 : increasingB r.head n = true) (h2 : r.choice = false) (h3 : orderedB r.body n = true) (h4 : r.sum = false → r.w.length = 0 ∧ r.bound = 0)
    (h5 : r.sum = true → weightsB r.w r.body.length = true ∧ 0 ≤ r.bound ∧ r.bound ≤ 1048576) : ruleE r n = 0 := by
  unfold ruleE
  rw [if_neg (by omega), if_neg (by rw [h1, h2]; simp), if_neg (by rw [h3]; simp), if_neg ?_]
  rintro (⟨hs, h⟩ | ⟨hs, h⟩)
  · have := h4 hs; omega
  · have h6 := h5 hs
    rw [h6.1] at h
    rcases h with h | h | h
    · cases h
    · omega
    · omega

theorem inc_one {a n : Int} (h : 1 ≤ a ∧ a ≤ n) : increasingB [a] n = true := by
  unfold increasingB
  rw [ord_of_sorted (by simp) (fun x hx => by obtain rfl := List.mem_singleton.1 hx; exact h), Bool.true_and]
  refine allR_true fun j hj => decide_eq_true ?_
  obtain rfl : j = 0 := by simpa using hj
  show 0 < a
  omega

theorem red_def {m : List Int} {r x : GR} {n : Int} (hr : BodyW r n) (hb : r.sum = false → r.bound = 0) (h : redB m r = some x) {hd : List Int} (h1 : increasingB hd n = true) (h2 : hd.length ≤ 1) : defAt n (withHead x hd) = true := by
  have hE : ruleE (withHead x hd) n = 0 ∧ ∀ j, j < (withHead x hd).body.length → 0 < ix (withHead x hd).body j := by
    unfold redB at h
    split at h
    · cases h
    · split at h
      · cases h
        exact ⟨ruleE_zero hr.v.rng h1 rfl rfl (fun _ => ⟨rfl, rfl⟩) (fun e => by cases e), fun j hj => by cases hj⟩
      · rename_i h3 h4
        cases h
        have hpos : ∀ y ∈ fstL (posP r r.body.length), 1 ≤ y ∧ y ≤ n := fun y hy => by
          obtain ⟨z, hz, rfl⟩ := List.mem_map.1 hy
          obtain ⟨j, hj, h5, rfl⟩ := (posP_mem _).1 hz
          have := hr.lit j hj
          show 1 ≤ ix r.body j ∧ ix r.body j ≤ n
          omega
        refine ⟨ruleE_zero hr.v.rng h1 rfl (ord_of_sorted (posP_sorted hr.v.ord _ (Nat.le_refl _)) hpos) (fun hs => ?_) (fun hs => ?_), fun j hj => ?_⟩
        · have hs : r.sum = false := hs
          refine ⟨?_, ?_⟩
          · show (if r.sum then sndL (posP r r.body.length) else []).length = 0
            rw [hs]; rfl
          · show r.bound - (if r.sum then negW m r r.body.length else 0) = 0
            rw [hs, hb hs]; rfl
        · have hs : r.sum = true := hs
          have hw := hr.wts hs
          have hn := negW_nonneg (m := m) (fun k hk => by have := (hw.2 k hk).1; omega) _ (Nat.le_refl _)
          have h5 : ¬ r.bound - negW m r r.body.length ≤ 0 := fun h => h4 ⟨hs, h⟩
          have hbd := hr.bound
          refine ⟨?_, ?_, ?_⟩
          · show weightsB (if r.sum then sndL (posP r r.body.length) else []) (fstL (posP r r.body.length)).length = true
            rw [hs, if_pos rfl]
            unfold weightsB
            rw [fstL_len, sndL_len, decide_eq_true rfl, Bool.and_true]
            exact allR_true fun j hj => decide_eq_true ((posP_weights hw.2 _ (Nat.le_refl _)).2 j hj)
          · show 0 ≤ r.bound - (if r.sum then negW m r r.body.length else 0)
            rw [hs, if_pos rfl]; omega
          · show r.bound - (if r.sum then negW m r r.body.length else 0) ≤ 1048576
            rw [hs, if_pos rfl]; omega
        · have := hpos _ (ix_mem hj)
          show 0 < ix (fstL (posP r r.body.length)) j
          omega
  unfold defAt
  rw [hE.1, decide_eq_true rfl, Bool.true_and]
  have hc : (withHead x hd).choice = false := by
    unfold redB at h
    split at h
    · cases h
    · split at h <;> (cases h; rfl)
  rw [hc, decide_eq_true (show (withHead x hd).head.length ≤ 1 from h2), anyR_false fun j hj => decide_eq_false (by have := hE.2 j hj; omega)]
  rfl

/-- No rule is a disjunction. -/
def flatP (p : GP) : Bool := allR p.rules.length (fun i => (ixR p.rules i).choice || decide ((ixR p.rules i).head.length ≤ 1))

theorem bodyW_valid {p : GP} (h : validE p = 0) : ∀ i, i < p.rules.length → BodyW (ixR p.rules i) p.n := fun i hi =>
  (bodyV_valid h hi).full (rule_bound (ruleE_at h hi)).2

theorem rule_parts {r : GR} {n : Int} (h : ruleE r n = 0) : increasingB r.head n = true ∧ (r.sum = false → r.bound = 0) := by
  unfold ruleE at h
  split at h
  · cases h
  · split at h
    · cases h
    · split at h
      · cases h
      · split at h
        · cases h
        · rename_i h1 h2 h3 h4
          refine ⟨?_, fun hs => ?_⟩
          · cases hi : increasingB r.head n with
            | true => rfl
            | false => exact absurd (.inl hi) h2
          · by_cases e : r.bound = 0
            · exact e
            · exact absurd (.inl ⟨hs, .inr e⟩) h4

theorem red_definite {p : GP} {m : List Int} (hv : validE p = 0) (hf : flatP p = true) (hl : (redL p m).length ≤ 40000) : definiteB p.n (redL p m) = true := by
  have hn := (validP hv).n
  unfold definiteB
  rw [decide_eq_true (show 0 ≤ p.n ∧ p.n ≤ 4000 ∧ (redL p m).length ≤ 40000 from ⟨hn.1, hn.2, hl⟩), Bool.true_and]
  refine allR_true fun q hq => ?_
  obtain ⟨i, hi, h2⟩ := (redTo_mem _).1 (ixR_mem hq : ixR (redL p m) q ∈ redL p m)
  obtain ⟨y, hd, hr, e, h3⟩ := redR_mem.1 h2
  have hp := rule_parts (ruleE_at hv hi)
  rw [e]
  rcases h3 with ⟨hc, a, h4, h5, rfl⟩ | ⟨hc, rfl⟩
  · obtain ⟨j, hj, e2⟩ := mem_ix.1 h4
    have := inc_pos hp.1 hj
    exact red_def (bodyW_valid hv i hi) hp.2 hr (inc_one (by omega)) (by simp)
  · have := allR_get hf i hi
    rw [hc, Bool.false_or, decide_eq_true_eq] at this
    exact red_def (bodyW_valid hv i hi) hp.2 hr hp.1 this

theorem redR_len (m : List Int) (r : GR) : (redR m r).length ≤ r.head.length + 1 := by
  unfold redR
  split
  · simp
  · split
    · rw [List.length_map]
      have := List.length_filter_le (fun a => decide (a ∈ m)) r.head
      omega
    · simp

theorem redTo_len {p : GP} {m : List Int} {B : Nat} (h : ∀ i, i < p.rules.length → (ixR p.rules i).head.length ≤ B) : ∀ k, k ≤ p.rules.length → (redTo p m k).length ≤ k * (B + 1)
  | 0, _ => by simp [redTo]
  | k + 1, hk => by
    have ih := redTo_len (m := m) h k (by omega)
    have h1 := redR_len m (ixR p.rules k)
    have h2 := h k (by omega)
    unfold redTo
    rw [List.length_append, Nat.add_mul]
    omega

/-! ### Under the extension -/
theorem ext_len {p : GP} {m : List Int} (hv : validE p = 0) (hm : setQ p.n m = true) : (extA p m).length = p.n.toNat + p.rules.length := by
  unfold extA; rw [if_pos ⟨hv, hm⟩, List.length_map, List.length_range]

theorem ext_ix {p : GP} {m : List Int} (hv : validE p = 0) (hm : setQ p.n m = true) {j : Nat} (hj : j < p.n.toNat + p.rules.length) : ix (extA p m) j = extAt p m j := by
  unfold extA; rw [if_pos ⟨hv, hm⟩]
  simp [ix, List.getD_eq_getElem?_getD, List.getElem?_map, List.getElem?_range, hj]

theorem off_lit {p : GP} {m : List Int} (hv : validE p = 0) (hm : setQ p.n m = true) {l : Int} (h1 : 1 ≤ l.natAbs) (h2 : (l.natAbs : Int) ≤ p.n) : offB (extA p m) l = !litT m l := by
  have hn := (validP hv).n
  have e1 := ext_ix hv hm (j := l.natAbs - 1) (by omega)
  have e2 : extAt p m (l.natAbs - 1) = if (l.natAbs : Int) ∈ m then 1 else -1 := by
    unfold extAt
    rw [if_pos (by omega), show ((l.natAbs - 1 : Nat) : Int) + 1 = l.natAbs by omega]
  unfold offB litT
  rw [e1, e2, ext_len hv hm, decide_eq_true (show l.natAbs ≤ p.n.toNat + p.rules.length by omega), Bool.true_and]
  by_cases hp : 0 < l
  · rw [if_pos hp, show (l.natAbs : Int) = l by omega]
    by_cases hl : l ∈ m
    · simp [hl, hp]
    · simp [hl, hp]
  · rw [if_neg hp, show (l.natAbs : Int) = -l by omega]
    by_cases hl : -l ∈ m
    · simp [hl, hp]
    · simp [hl, hp]

theorem off_body {p : GP} {m : List Int} (hv : validE p = 0) (hm : setQ p.n m = true) {i : Nat} (hi : i < p.rules.length) : offB (extA p m) (p.n + 1 + i) = !bodyT (ixR p.rules i) m := by
  have hn := (validP hv).n
  have e0 : (p.n + 1 + (i : Int)).natAbs - 1 = p.n.toNat + i := by omega
  have e1 := ext_ix hv hm (j := p.n.toNat + i) (by omega)
  have e2 : extAt p m (p.n.toNat + i) = if bodyT (ixR p.rules i) m then 1 else -1 := by
    unfold extAt
    rw [if_neg (by omega), show p.n.toNat + i - p.n.toNat = i by omega]
  unfold offB
  rw [e0, e1, e2, ext_len hv hm, decide_eq_true (show (p.n + 1 + (i : Int)).natAbs ≤ p.n.toNat + p.rules.length by omega), Bool.true_and, decide_eq_true (show 0 < p.n + 1 + (i : Int) by omega)]
  cases bodyT (ixR p.rules i) m <;> simp

theorem holds_ext {p : GP} {m T : List Int} {G : Int → Int} (hv : validE p = 0) (hm : setQ p.n m = true) (hGT : ∀ x, 0 < G x ↔ x ∈ T) (hT : ∀ x ∈ T, x ∈ m) {l : Int} (h1 : 1 ≤ l.natAbs) (h2 : (l.natAbs : Int) ≤ p.n) : holdsB (extA p m) G (fun _ => 0) 1 l = hlT T m l := by
  rw [holds_set, off_lit hv hm h1 h2, Bool.not_not]
  unfold litT hlT
  by_cases hp : 0 < l
  · rw [if_pos hp, if_pos hp, decide_eq_false (show ¬ l < 0 by omega), Bool.false_or]
    by_cases e : l ∈ T
    · rw [decide_eq_true (hT l e), decide_eq_true e, decide_eq_true ((hGT l).2 e)]; rfl
    · rw [decide_eq_false e, decide_eq_false (fun h => e ((hGT l).1 h)), Bool.and_false]
  · rw [if_neg hp, if_neg hp, decide_eq_true (show l < 0 by omega), Bool.true_or, Bool.and_true]

theorem avS_ext {p : GP} {m T : List Int} {G : Int → Int} (hv : validE p = 0) (hm : setQ p.n m = true) (hGT : ∀ x, 0 < G x ↔ x ∈ T) (hT : ∀ x ∈ T, x ∈ m) {i : Nat} (hi : i < p.rules.length) : avS p (extA p m) G i = (bodyT (ixR p.rules i) m && avT T m (ixR p.rules i)) := by
  have hr := bodyW_valid hv i hi
  have hl : ∀ k, k < (ixR p.rules i).body.length → holdsB (extA p m) G (fun _ => 0) 1 (ix (ixR p.rules i).body k) = hlT T m (ix (ixR p.rules i).body k) := fun k hk => by
    have := hr.lit k hk
    exact holds_ext hv hm hGT hT (by omega) (by omega)
  have hs : ∀ k, k ≤ (ixR p.rules i).body.length → avSum (ixR p.rules i) (extA p m) G (fun _ => 0) 1 k = avW T m (ixR p.rules i) k := fun k => by
    induction k with
    | zero => intro _; rfl
    | succ k ih =>
      intro hk
      unfold avSum avW
      rw [ih (by omega), hl k (by omega)]
  unfold avS avB availB avT
  rw [show ((i : Int)).toNat = i by omega, off_body hv hm hi, Bool.not_not, hs _ (Nat.le_refl _)]
  congr 1
  split
  · rfl
  · unfold allR
    rw [Bool.eq_iff_iff, List.all_eq_true, List.all_eq_true]
    constructor
    · intro h x hx; rw [← hl x (List.mem_range.1 hx)]; exact h x hx
    · intro h x hx; rw [hl x (List.mem_range.1 hx)]; exact h x hx

/-! ### Stable, supported, founded -/
theorem setQ_sorted {n : Int} {m : List Int} (h : setQ n m = true) : m.Pairwise (· < ·) := by
  rw [List.pairwise_iff_getElem]
  have hs : ∀ d i, i + d + 1 < m.length → ix m i < ix m (i + d + 1) := by
    intro d
    induction d with
    | zero =>
      intro i hi
      have := allR_get h (i + 1) hi
      unfold setTo at this
      simp only [Bool.and_eq_true, Bool.or_eq_true, decide_eq_true_eq, beq_iff_eq] at this
      have h1 := this.2
      rw [Nat.add_sub_cancel] at h1
      exact h1.resolve_left (by omega)
    | succ d ih =>
      intro i hi
      have h1 := ih i (by omega)
      have := allR_get h (i + (d + 1) + 1) hi
      unfold setTo at this
      simp only [Bool.and_eq_true, Bool.or_eq_true, decide_eq_true_eq, beq_iff_eq] at this
      have h2 := this.2.resolve_left (by omega)
      rw [show i + (d + 1) + 1 - 1 = i + d + 1 by omega] at h2
      omega
  intro i j hi hj hij
  have e : ∀ k, (hk : k < m.length) → ix m k = m[k] := fun k hk => by simp [ix, List.getD_eq_getElem?_getD, List.getElem?_eq_getElem hk]
  rw [← e i hi, ← e j hj]
  have := hs (j - i - 1) i (by omega)
  rw [show i + (j - i - 1) + 1 = j by omega] at this
  exact this

theorem setQ_rng {n : Int} {m : List Int} (h : setQ n m = true) {x : Int} (hx : x ∈ m) : 1 ≤ x ∧ x ≤ n := by
  obtain ⟨j, hj, rfl⟩ := mem_ix.1 hx
  have := allR_get h j hj
  unfold setTo at this
  simp only [Bool.and_eq_true, decide_eq_true_eq] at this
  exact this.1

theorem models_head {p : GP} {m : List Int} (hM : modelsB p m = true) (hf : flatP p = true) {i : Nat} (hi : i < p.rules.length) (hb : bodyT (ixR p.rules i) m = true) {x : Int} (hx : x ∈ (ixR p.rules i).head) (hc : (ixR p.rules i).choice = true → x ∈ m) : x ∈ m := by
  cases h1 : (ixR p.rules i).choice with
  | true => exact hc h1
  | false =>
    have h2 := allR_get hM i hi
    unfold satT at h2
    rw [h1, hb, Bool.false_or, Bool.not_true, Bool.false_or] at h2
    obtain ⟨j, hj, h3⟩ := List.any_eq_true.1 h2
    have hj := List.mem_range.1 hj
    have h3 : ix (ixR p.rules i).head j ∈ m := of_decide_eq_true h3
    have h4 := allR_get hf i hi
    rw [h1, Bool.false_or, decide_eq_true_eq] at h4
    obtain ⟨q, hq, rfl⟩ := mem_ix.1 hx
    obtain rfl : q = j := by omega
    exact h3

theorem stable_law {p : GP} {m M : List Int} {F : Int → Int} (hv : validE p = 0) (hf : flatP p = true) (hm : setQ p.n m = true) (hF : IsFnd p (extA p m) F) (hM : IsLeast (redL p m) M) (hs : M.Pairwise (· < ·)) :
    (modelsB p m && decide (M = m)) = (suppB p m && decide (findTo F (extA p m) p.n.toNat = [])) := by
  have hn := (validP hv).n
  have hB := bodyW_valid hv
  cases hmod : modelsB p m with
  | false => unfold suppB; rw [hmod]; rfl
  | true =>
    have hcl := (closed_red (T := M) hB).1 hM.closed
    -- M lies in m
    have h1 : ∀ x ∈ M, x ∈ m := fun x hx => hM.least x hx m ((closed_red hB).2 fun i hi ha y hy hc => by
      rw [avT_self] at ha
      exact models_head hmod hf hi ha hy hc)
    -- what is founded lies in M
    have h2 : ∀ x, 0 < F x → x ∈ M := fun x hx => by
      have hc : Closed p (extA p m) (fun x => if x ∈ M then 1 else 0) := fun y i hy1 hy2 hoff ⟨hi0, hi1, hy⟩ hav => by
        obtain ⟨k, rfl⟩ : ∃ k : Nat, i = k := ⟨i.toNat, by omega⟩
        have hk : k < p.rules.length := by omega
        rw [avS_ext hv hm (T := M) (fun x => by show 0 < (if x ∈ M then (1 : Int) else 0) ↔ _; split <;> simp_all) h1 hk, Bool.and_eq_true] at hav
        rw [show ((k : Int)).toNat = k by omega] at hy
        rw [off_lit hv hm (by omega) (by omega)] at hoff
        have hym : y ∈ m := by
          unfold litT at hoff
          rw [if_pos (by omega)] at hoff
          simpa using hoff
        show 0 < (if y ∈ M then (1 : Int) else 0)
        rw [if_pos (hcl k hk hav.2 y hy (fun _ => hym))]
        omega
      have := hF.least _ hc x hx
      by_cases e : x ∈ M
      · exact e
      · simp [e] at this
    -- and M is founded
    have h3 : ∀ x ∈ M, 0 < F x := fun x hx => by
      have hT : ∀ y, 0 < F y ↔ y ∈ upF F p.n.toNat := fun y => by
        rw [upF_mem]
        constructor
        · intro h; have := hF.dom y h; omega
        · intro h; exact h.2.2
      have hTm : ∀ y ∈ upF F p.n.toNat, y ∈ m := fun y hy => h1 y (h2 y ((hT y).2 hy))
      refine (hT x).2 (hM.least x hx _ ((closed_red hB).2 fun i hi ha y hy hc => ?_))
      have hb : bodyT (ixR p.rules i) m = true := by rw [← avT_self]; exact avT_mono hTm (hB i hi) ha
      have hym := models_head hmod hf hi hb hy hc
      have hyr := setQ_rng hm hym
      refine (hT y).1 (hF.closed y i hyr.1 hyr.2 ?_ ⟨by omega, by omega, by rw [show ((i : Int)).toNat = i by omega]; exact hy⟩ ?_)
      · rw [off_lit hv hm (by omega) (by omega)]
        unfold litT
        rw [if_pos (by omega), decide_eq_true hym]; rfl
      · rw [avS_ext hv hm hT hTm hi, hb, ha]; rfl
    have h4 : findTo F (extA p m) p.n.toNat = [] ↔ M = m := by
      constructor
      · intro h
        refine sorted_eq hs (setQ_sorted hm) fun x => ⟨h1 x, fun hx => ?_⟩
        have hr := setQ_rng hm hx
        by_cases hFx : 0 < F x
        · exact h2 x hFx
        · have : x ∈ findTo F (extA p m) p.n.toNat := (find_mem _).2 ⟨hr.1, by omega, hFx, by
            rw [off_lit hv hm (by omega) (by omega)]
            unfold litT
            rw [if_pos (by omega), decide_eq_true hx]; rfl⟩
          rw [h] at this; cases this
      · rintro rfl
        refine List.eq_nil_iff_forall_not_mem.2 fun x hx => ?_
        obtain ⟨hx1, hx2, hx3, hx4⟩ := (find_mem _).1 hx
        rw [off_lit hv hm (by omega) (by omega)] at hx4
        unfold litT at hx4
        rw [if_pos (by omega)] at hx4
        exact hx3 (h3 x (by simpa using hx4))
    by_cases e : M = m
    · rw [decide_eq_true e, decide_eq_true (h4.2 e)]
      have hsup : suppB p m = true := by
        unfold suppB
        rw [hmod, Bool.true_and]
        refine allR_true fun j hj => ?_
        cases hany : anyR p.rules.length (fun i => bodyT (ixR p.rules i) m && decide (ix m j ∈ (ixR p.rules i).head)) with
        | true => rfl
        | false =>
          have hx : ix m j ∈ M := by rw [e]; exact ix_mem hj
          have hno : ∀ i, i < p.rules.length → bodyT (ixR p.rules i) m = true → ix m j ∉ (ixR p.rules i).head := fun i hi hb hx2 => by
            have := List.any_eq_false.1 hany i (List.mem_range.2 hi)
            exact this (by rw [hb, decide_eq_true hx2]; rfl)
          have hc : ClosedD (redL p m) (m.filter fun y => decide (y ≠ ix m j)) := (closed_red hB).2 fun i hi ha y hy hch => by
            have hb : bodyT (ixR p.rules i) m = true := by rw [← avT_self]; exact avT_mono (fun z hz => (List.mem_filter.1 hz).1) (hB i hi) ha
            have hym := models_head hmod hf hi hb hy hch
            refine List.mem_filter.2 ⟨hym, decide_eq_true fun e2 => ?_⟩
            exact hno i hi hb (e2 ▸ hy)
          have := (List.mem_filter.1 (hM.least _ hx _ hc)).2
          simp at this
      rw [hsup]
    · rw [decide_eq_false e, decide_eq_false (fun h => e (h4.1 h)), Bool.and_false, Bool.and_false]

end Go.Proofs.Ytdoecchigfdilaa
