/- My texts StabP, Rn1, Two, Rn2, Rf27c, Lt0, StG, merged. -/
import Derived.Test.YtjodocheiejkeaaGreatDoorM07
import Derived.Test.YtjodocheiejkeaaGreatDoorM06
import Derived.Test.YtjodocheiejkeaaGreatDoorM05
import Derived.Test.YtjodocheiejkeaaGreatDoorM04
import Derived.Test.YtjodocheiejkeaaGreatDoorM03
import Derived.Test.YtjodocheiejkeaaGreatDoorM02
import Derived.Test.YtjodocheiejkeaaGreatDoorM00
import Derived.Test.YtjodocheiejkeaaGreatDoorProg
import Derived.WalkKit
import Derived.Lib.Hide
import Derived.Deep.QuietTactic
import Derived.BigQuiet
import Derived.WalkSpells
import Derived.Lib.SliceRun
import Derived.MapKept
import Derived.Maps.OwnSet
import Derived.Maps.OwnOps
import Derived.Test.YtjodocheiejkeaaGreatDoorM01
import Derived.Deep.AppendLies
import Derived.Lib.Bytealg
import Derived.Deep.DeepCutAuto
import Derived.Laws.EntriesVeiled
import Derived.Deep.RegionWith
import Derived.Deep.OwnRows
import Derived.RangeFuncNested
import Derived.RangeFuncBound
import Derived.RangeFuncCalls
import Derived.RangeFuncLeaves
import Derived.OwnWalkIn
import Derived.TacticsInMore
import Derived.LoopNIn
import Derived.LoopIn
import Derived.Stop.RegionWithIn
import Derived.Shelf.Abstract
import Derived.Test.YtjodocheiejkeaaGreatDoorM15
import Derived.Test.YtjodocheiejkeaaGreatDoorM14
import Derived.Test.YtjodocheiejkeaaGreatDoorM13
import Derived.Deep.LoopGhost
import Derived.Deep.DrawnRows
import Derived.Test.YtjodocheiejkeaaGreatDoorM11
import Derived.Test.YtjodocheiejkeaaGreatDoorM08
import Derived.Sort.QuietThIn
import Derived.Test.YtjodocheiejkeaaGreatDoorM10
import Derived.Test.YtjodocheiejkeaaGreatDoorM09
import Derived.Maps.RangeWalk
import Derived.Lib.SlicesCompact
import Derived.Shelf.Sort.Plain
import Derived.Shelf.Slices.CompactI
import Derived.Shelf.Slices.In.SortNone
import Derived.Shelf.Strconv.Itoa3
import Derived.Shelf.Strings.BuilderK
import Derived.Sort.OwnSortedInts
import Derived.RangeFuncBox
import Derived.Maps.OwnIn
import Derived.Lib.RowBridge
import Derived.Deep.AppendSrc
import Derived.Test.YtjodocheiejkeaaGreatDoorM12

namespace Go.Proofs.YtjodocheiejkeaaGreatDoor
open Go.RowKit
def posP (r : GR) : Nat → List (Int × Int)
  | 0 => []
  | k + 1 => if 0 < ix r.body k then posP r k ++ [(ix r.body k, ix r.w k)] else posP r k
def negW (m : List Int) (r : GR) : Nat → Int
  | 0 => 0
  | k + 1 => negW m r k + if ix r.body k < 0 ∧ -(ix r.body k) ∉ m then ix r.w k else 0
def fstL (l : List (Int × Int)) : List Int := l.map (·.1)
def sndL (l : List (Int × Int)) : List Int := l.map (·.2)
def emptyR : GR := ⟨false, [], false, 0, [], []⟩
def negF (m : List Int) (r : GR) (k : Nat) : Bool := anyR k (fun j => decide (ix r.body j < 0) && decide (-(ix r.body j) ∈ m))
def redAt (m : List Int) (r : GR) (k : Nat) : GR := ⟨false, [], r.sum, r.bound - (if r.sum then negW m r k else 0), fstL (posP r k), if r.sum then sndL (posP r k) else []⟩
def redB (m : List Int) (r : GR) : Option GR :=
  if r.sum = false ∧ negF m r r.body.length = true then none
  else if r.sum = true ∧ r.bound - negW m r r.body.length ≤ 0 then some emptyR
  else some (redAt m r r.body.length)
def withHead (x : GR) (h : List Int) : GR := { x with head := h }
def redR (m : List Int) (r : GR) : List GR :=
  match redB m r with
  | none => []
  | some x => if r.choice then (r.head.filter (fun a => decide (a ∈ m))).map (fun a => withHead x [a]) else [withHead x r.head]
def redTo (p : GP) (m : List Int) : Nat → List GR
  | 0 => []
  | k + 1 => redTo p m k ++ redR m (ixR p.rules k)
def redL (p : GP) (m : List Int) : List GR := redTo p m p.rules.length
def hlT (T m : List Int) (l : Int) : Bool := if 0 < l then decide (l ∈ T) else !decide (-l ∈ m)
def avW (T m : List Int) (r : GR) : Nat → Int
  | 0 => 0
  | k + 1 => avW T m r k + if hlT T m (ix r.body k) then ix r.w k else 0
def avT (T m : List Int) (r : GR) : Bool := if r.sum then decide (r.bound ≤ avW T m r r.body.length) else allR r.body.length (fun j => hlT T m (ix r.body j))
theorem avW_self (m : List Int) (r : GR) : ∀ k, avW m m r k = wsum m r k
  | 0 => rfl
  | k + 1 => by unfold avW wsum; rw [avW_self m r k]; rfl
theorem avT_self (m : List Int) (r : GR) : avT m m r = bodyT r m := by
  unfold avT bodyT
  rw [avW_self]
  rfl
theorem hlT_mono {T T' m : List Int} (h : ∀ x ∈ T, x ∈ T') {l : Int} (hl : hlT T m l = true) : hlT T' m l = true := by
  unfold hlT at *
  split at hl
  · rename_i h0
    rw [if_pos h0]
    exact decide_eq_true (h _ (of_decide_eq_true hl))
  · rename_i h0
    rw [if_neg h0]
    exact hl
theorem avW_mono {T T' m : List Int} {r : GR} (h : ∀ x ∈ T, x ∈ T') (hw : ∀ k, k < r.body.length → 0 ≤ ix r.w k) : ∀ k, k ≤ r.body.length → avW T m r k ≤ avW T' m r k
  | 0, _ => Int.le_refl _
  | k + 1, hk => by
    have ih := avW_mono (m := m) h hw k (by omega)
    have h0 := hw k (by omega)
    unfold avW
    by_cases e : hlT T m (ix r.body k) = true
    · rw [if_pos e, if_pos (hlT_mono h e)]; omega
    · rw [if_neg e]; split <;> omega
structure BodyW (r : GR) (n : Int) : Prop where
  v : BodyV r n
  lit : ∀ j, j < r.body.length → ix r.body j ≠ 0 ∧ -n ≤ ix r.body j ∧ ix r.body j ≤ n
  wts : r.sum = true → r.w.length = r.body.length ∧ ∀ k, k < r.body.length → 1 ≤ ix r.w k ∧ ix r.w k ≤ 1048576 - sumTo r.w k
  bound : r.bound ≤ 1048576
theorem BodyV.full {r : GR} {n : Int} (h : BodyV r n) (hb : r.bound ≤ 1048576) : BodyW r n where
  v := h
  lit := fun j hj => ordered_lit h.ord (ix_mem hj)
  wts := fun hs => by
    have := h.sum hs
    unfold weightsB at this
    rw [Bool.and_eq_true, decide_eq_true_eq] at this
    obtain ⟨h1, h2⟩ := this
    have h3 : r.w.length = r.body.length := by omega
    exact ⟨h3, fun k hk => of_decide_eq_true (allR_get h1 k (by omega))⟩
  bound := hb
theorem avT_mono {T T' m : List Int} {r : GR} {n : Int} (h : ∀ x ∈ T, x ∈ T') (hr : BodyW r n) (ha : avT T m r = true) : avT T' m r = true := by
  unfold avT at *
  cases hs : r.sum with
  | true =>
    rw [hs] at ha
    rw [if_pos rfl] at ha ⊢
    rw [decide_eq_true_eq] at ha ⊢
    exact Int.le_trans ha (avW_mono h (fun k hk => by have := ((hr.wts hs).2 k hk).1; omega) _ (Nat.le_refl _))
  | false =>
    rw [hs] at ha
    rw [if_neg (by simp)] at ha ⊢
    exact allR_true fun j hj => hlT_mono h (allR_get ha j hj)
theorem lhsTo_agree {T : List Int} {r r' : GR} : ∀ k, (∀ j, j < k → ix r.body j = ix r'.body j ∧ wOf r j = wOf r' j) → lhsTo T r k = lhsTo T r' k
  | 0, _ => rfl
  | k + 1, h => by
    unfold lhsTo
    rw [lhsTo_agree k (fun j hj => h j (by omega)), (h k (by omega)).1, (h k (by omega)).2]
theorem ix_snoc (l : List Int) (x : Int) : ix (l ++ [x]) l.length = x := by simp [ix]
theorem ix_snoc_lt {l : List Int} (x : Int) {j : Nat} (hj : j < l.length) : ix (l ++ [x]) j = ix l j := by
  simp [ix, List.getD_eq_getElem?_getD, List.getElem?_append_left hj]
theorem fstL_snoc (l : List (Int × Int)) (x : Int × Int) : fstL (l ++ [x]) = fstL l ++ [x.1] := by simp [fstL]
theorem sndL_snoc (l : List (Int × Int)) (x : Int × Int) : sndL (l ++ [x]) = sndL l ++ [x.2] := by simp [sndL]
theorem fstL_len (l : List (Int × Int)) : (fstL l).length = l.length := by simp [fstL]
theorem sndL_len (l : List (Int × Int)) : (sndL l).length = l.length := by simp [sndL]
def payP (T : List Int) (r : GR) : Nat → Int
  | 0 => 0
  | k + 1 => payP T r k + if 0 < ix r.body k ∧ ix r.body k ∈ T then ix r.w k else 0
theorem lhs_posP (T : List Int) (r : GR) (bd : Int) : ∀ k, lhsTo T ⟨false, [], true, bd, fstL (posP r k), sndL (posP r k)⟩ (posP r k).length = payP T r k
  | 0 => rfl
  | k + 1 => by
    have ih := lhs_posP T r bd k
    unfold posP payP
    by_cases h0 : 0 < ix r.body k
    · rw [if_pos h0, List.length_append, List.length_singleton]
      show lhsTo T _ (posP r k).length + (if ix (fstL (posP r k ++ [(ix r.body k, ix r.w k)])) (posP r k).length ∈ T then ix (sndL (posP r k ++ [(ix r.body k, ix r.w k)])) (posP r k).length else 0) = _
      have e1 : ix (fstL (posP r k ++ [(ix r.body k, ix r.w k)])) (posP r k).length = ix r.body k := by
        rw [fstL_snoc, ← fstL_len (posP r k), ix_snoc]
      have e2 : ix (sndL (posP r k ++ [(ix r.body k, ix r.w k)])) (posP r k).length = ix r.w k := by
        rw [sndL_snoc, ← sndL_len (posP r k), ix_snoc]
      rw [e1, e2, ← ih]
      congr 1
      · refine lhsTo_agree _ fun j hj => ⟨?_, ?_⟩
        · show ix (fstL _) j = ix (fstL _) j
          rw [fstL_snoc, ix_snoc_lt _ (by rw [fstL_len]; exact hj)]
        · show ix (sndL _) j = ix (sndL _) j
          rw [sndL_snoc, ix_snoc_lt _ (by rw [sndL_len]; exact hj)]
      · simp only [h0, true_and]
    · rw [if_neg h0, if_neg (fun h => h0 h.1)]
      omega
theorem avW_parts {T m : List Int} {r : GR} (h : ∀ j, j < r.body.length → ix r.body j ≠ 0) : ∀ k, k ≤ r.body.length → avW T m r k = negW m r k + payP T r k
  | 0, _ => rfl
  | k + 1, hk => by
    have ih := avW_parts (T := T) (m := m) h k (by omega)
    have h0 := h k (by omega)
    unfold avW negW payP hlT
    rw [ih]
    by_cases e : 0 < ix r.body k
    · rw [if_pos e, if_neg (show ¬ (ix r.body k < 0 ∧ -(ix r.body k) ∉ m) from fun h => by omega)]
      simp only [e, true_and, decide_eq_true_eq]
      omega
    · rw [if_neg e, if_neg (show ¬ (0 < ix r.body k ∧ ix r.body k ∈ T) from fun h => e h.1)]
      have e2 : ix r.body k < 0 := by omega
      simp only [e2, true_and, Bool.not_eq_true', decide_eq_false_iff_not]
      omega
theorem payP_nonneg {T : List Int} {r : GR} (hw : ∀ k, k < r.body.length → 0 ≤ ix r.w k) : ∀ k, k ≤ r.body.length → 0 ≤ payP T r k
  | 0, _ => Int.le_refl _
  | k + 1, hk => by
    have ih := payP_nonneg (T := T) hw k (by omega)
    have := hw k (by omega)
    unfold payP; split <;> omega
theorem negW_nonneg {m : List Int} {r : GR} (hw : ∀ k, k < r.body.length → 0 ≤ ix r.w k) : ∀ k, k ≤ r.body.length → 0 ≤ negW m r k
  | 0, _ => Int.le_refl _
  | k + 1, hk => by
    have ih := negW_nonneg (m := m) hw k (by omega)
    have := hw k (by omega)
    unfold negW; split <;> omega
theorem posP_mem {r : GR} {y : Int × Int} : ∀ k, y ∈ posP r k ↔ ∃ j, j < k ∧ 0 < ix r.body j ∧ y = (ix r.body j, ix r.w j)
  | 0 => by simp [posP]
  | k + 1 => by
    have ih := posP_mem (r := r) (y := y) k
    unfold posP
    split
    · rename_i h0
      rw [List.mem_append, List.mem_singleton, ih]
      constructor
      · rintro (⟨j, hj, h1, h2⟩ | rfl)
        · exact ⟨j, by omega, h1, h2⟩
        · exact ⟨k, by omega, h0, rfl⟩
      · rintro ⟨j, hj, h1, h2⟩
        by_cases e : j = k
        · subst e; exact .inr h2
        · exact .inl ⟨j, by omega, h1, h2⟩
    · rename_i h0
      rw [ih]
      constructor
      · rintro ⟨j, hj, h1, h2⟩; exact ⟨j, by omega, h1, h2⟩
      · rintro ⟨j, hj, h1, h2⟩
        by_cases e : j = k
        · subst e; exact absurd h1 h0
        · exact ⟨j, by omega, h1, h2⟩
theorem posP_len (r : GR) : ∀ k, (posP r k).length ≤ k
  | 0 => Nat.le_refl _
  | k + 1 => by
    have := posP_len r k
    unfold posP; split
    · rw [List.length_append, List.length_singleton]; omega
    · omega
theorem withHead_need (x : GR) (h : List Int) (T : List Int) : need0 (withHead x h) = need0 x ∧ lhs T (withHead x h) = lhs T x := by
  refine ⟨rfl, ?_⟩
  unfold lhs
  exact lhsTo_agree _ fun j _ => ⟨rfl, rfl⟩
theorem red_none {m : List Int} {r : GR} (T : List Int) (h : redB m r = none) : avT T m r = false := by
  unfold redB at h
  split at h
  · rename_i h1
    unfold avT
    rw [if_neg (by rw [h1.1]; simp)]
    obtain ⟨h2, h3⟩ := h1
    unfold negF anyR at h3
    obtain ⟨j, hj, h4⟩ := List.any_eq_true.1 h3
    rw [Bool.and_eq_true, decide_eq_true_eq, decide_eq_true_eq] at h4
    refine allR_false j (List.mem_range.1 hj) ?_
    unfold hlT
    rw [if_neg (by omega), decide_eq_true h4.2]
    rfl
  · split at h <;> cases h
theorem red_some {m : List Int} {r x : GR} {n : Int} (T : List Int) (hr : BodyW r n) (h : redB m r = some x) : need0 x ≤ lhs T x ↔ avT T m r = true := by
  have hlit := hr.lit
  unfold redB at h
  split at h
  · cases h
  · rename_i h1
    cases hs : r.sum with
    | true =>
      have hw : ∀ k, k < r.body.length → 0 ≤ ix r.w k := fun k hk => by have := ((hr.wts hs).2 k hk).1; omega
      have e1 : avT T m r = decide (r.bound ≤ avW T m r r.body.length) := by unfold avT; rw [if_pos hs]
      rw [e1, decide_eq_true_eq, avW_parts (fun j hj => (hlit j hj).1) _ (Nat.le_refl _)]
      have hp := payP_nonneg (T := T) hw _ (Nat.le_refl _)
      split at h
      · rename_i h2
        cases h
        have : need0 emptyR = 0 := rfl
        have : lhs T emptyR = 0 := rfl
        omega
      · cases h
        have e2 : redAt m r r.body.length = ⟨false, [], true, r.bound - negW m r r.body.length, fstL (posP r r.body.length), sndL (posP r r.body.length)⟩ := by
          unfold redAt; rw [hs]; rfl
        rw [e2]
        have e3 := lhs_posP T r (r.bound - negW m r r.body.length) r.body.length
        unfold lhs
        show r.bound - negW m r r.body.length ≤ lhsTo T _ (fstL (posP r r.body.length)).length ↔ _
        rw [fstL_len, e3]
        omega
    | false =>
      rw [if_neg (by rw [hs]; simp)] at h
      cases h
      have e1 : avT T m r = allR r.body.length (fun j => hlT T m (ix r.body j)) := by unfold avT; rw [if_neg (by rw [hs]; simp)]
      rw [e1]
      have hx : (redAt m r r.body.length).sum = false := hs
      have h2 := (lhs_all (M := T) hx (redAt m r r.body.length).body.length).2
      have h3 : need0 (redAt m r r.body.length) = (redAt m r r.body.length).body.length := by unfold need0; rw [if_neg (by rw [hx]; simp)]
      rw [h3]
      unfold lhs
      rw [h2]
      constructor
      · intro h4
        refine allR_true fun j hj => ?_
        unfold hlT
        by_cases e : 0 < ix r.body j
        · rw [if_pos e]
          have h5 : ix r.body j ∈ fstL (posP r r.body.length) := List.mem_map.2 ⟨_, (posP_mem _).2 ⟨j, hj, e, rfl⟩, rfl⟩
          obtain ⟨q, hq, h6⟩ := mem_ix.1 h5
          exact decide_eq_true (h6 ▸ h4 q hq)
        · rw [if_neg e]
          have h5 := (hlit j hj).1
          have h6 : negF m r r.body.length = false := by
            cases hn : negF m r r.body.length with
            | false => rfl
            | true => exact absurd ⟨hs, hn⟩ h1
          have h7 : (decide (ix r.body j < 0) && decide (-(ix r.body j) ∈ m)) = false := by
            have := List.any_eq_false.1 h6 j (List.mem_range.2 hj)
            simpa using this
          rw [decide_eq_true (show ix r.body j < 0 by omega), Bool.true_and] at h7
          rw [h7]; rfl
      · intro h4 q hq
        have h5 : ix (fstL (posP r r.body.length)) q ∈ fstL (posP r r.body.length) := ix_mem hq
        obtain ⟨y, hy, h6⟩ := List.mem_map.1 h5
        obtain ⟨j, hj, h7, rfl⟩ := (posP_mem _).1 hy
        have h8 := allR_get h4 j hj
        unfold hlT at h8
        rw [if_pos h7, decide_eq_true_eq] at h8
        show ix (fstL (posP r r.body.length)) q ∈ T
        rw [← h6]; exact h8
theorem redTo_mem {p : GP} {m : List Int} {y : GR} : ∀ k, y ∈ redTo p m k ↔ ∃ i, i < k ∧ y ∈ redR m (ixR p.rules i)
  | 0 => by simp [redTo]
  | k + 1 => by
    unfold redTo
    rw [List.mem_append, redTo_mem k]
    constructor
    · rintro (⟨i, hi, h⟩ | h)
      · exact ⟨i, by omega, h⟩
      · exact ⟨k, by omega, h⟩
    · rintro ⟨i, hi, h⟩
      by_cases e : i = k
      · subst e; exact .inr h
      · exact .inl ⟨i, by omega, h⟩
theorem redR_mem {m : List Int} {r y : GR} : y ∈ redR m r ↔ ∃ x h, redB m r = some x ∧ y = withHead x h ∧ ((r.choice = true ∧ ∃ a, a ∈ r.head ∧ a ∈ m ∧ h = [a]) ∨ (r.choice = false ∧ h = r.head)) := by
  unfold redR
  cases hx : redB m r with
  | none => simp
  | some x =>
    cases hc : r.choice with
    | true =>
      simp only [if_true, List.mem_map, List.mem_filter, decide_eq_true_eq, Option.some.injEq]
      constructor
      · rintro ⟨a, ⟨h1, h2⟩, rfl⟩
        exact ⟨x, [a], rfl, rfl, .inl ⟨by first | trivial | rfl, a, h1, h2, rfl⟩⟩
      · rintro ⟨x', h, rfl, rfl, (⟨-, a, h1, h2, rfl⟩ | ⟨e, -⟩)⟩
        · exact ⟨a, ⟨h1, h2⟩, rfl⟩
        · cases e
    | false =>
      simp only [Bool.false_eq_true, if_false, List.mem_singleton, Option.some.injEq]
      constructor
      · rintro rfl
        exact ⟨x, r.head, rfl, rfl, .inr ⟨by first | trivial | rfl, rfl⟩⟩
      · rintro ⟨x', h, rfl, rfl, (⟨e, -⟩ | ⟨-, rfl⟩)⟩
        · cases e
        · rfl
theorem closed_red {p : GP} {m T : List Int} (hB : ∀ i, i < p.rules.length → BodyW (ixR p.rules i) p.n) :
    ClosedD (redL p m) T ↔ ∀ i, i < p.rules.length → avT T m (ixR p.rules i) = true → ∀ x ∈ (ixR p.rules i).head, ((ixR p.rules i).choice = true → x ∈ m) → x ∈ T := by
  constructor
  · intro h i hi ha x hx hc
    cases hr : redB m (ixR p.rules i) with
    | none => rw [red_none T hr] at ha; cases ha
    | some y =>
      have hn := (red_some T (hB i hi) hr).2 ha
      cases hch : (ixR p.rules i).choice with
      | true =>
        have h1 : withHead y [x] ∈ redL p m := (redTo_mem _).2 ⟨i, hi, redR_mem.2 ⟨y, [x], hr, rfl, .inl ⟨hch, x, hx, hc hch, rfl⟩⟩⟩
        obtain ⟨q, hq, e⟩ := ixR_of_mem h1
        have h2 := h q hq
        rw [e, (withHead_need y [x] T).1, (withHead_need y [x] T).2] at h2
        exact h2 hn x (List.mem_singleton.2 rfl)
      | false =>
        have h1 : withHead y (ixR p.rules i).head ∈ redL p m := (redTo_mem _).2 ⟨i, hi, redR_mem.2 ⟨y, _, hr, rfl, .inr ⟨hch, rfl⟩⟩⟩
        obtain ⟨q, hq, e⟩ := ixR_of_mem h1
        have h2 := h q hq
        rw [e, (withHead_need y _ T).1, (withHead_need y _ T).2] at h2
        exact h2 hn x hx
  · intro h q hq hn x hx
    have h1 : ixR (redL p m) q ∈ redL p m := ixR_mem hq
    obtain ⟨i, hi, h2⟩ := (redTo_mem _).1 h1
    obtain ⟨y, hd, hr, e, h3⟩ := redR_mem.1 h2
    rw [e, (withHead_need y _ T).1, (withHead_need y _ T).2] at hn
    rw [e] at hx
    have ha := (red_some T (hB i hi) hr).1 hn
    rcases h3 with ⟨hc, a, h4, h5, rfl⟩ | ⟨hc, rfl⟩
    · obtain rfl := List.mem_singleton.1 (show x ∈ [a] from hx)
      exact h i hi ha x h4 (fun _ => h5)
    · exact h i hi ha x hx (fun e => by rw [hc] at e; cases e)
theorem ord_of_sorted {n : Int} {l : List Int} (h : l.Pairwise (· < ·)) (hr : ∀ x ∈ l, 1 ≤ x ∧ x ≤ n) : orderedB l n = true := by
  unfold orderedB
  refine allR_true fun j hj => ?_
  unfold okAt
  have h1 := hr _ (ix_mem hj)
  rw [Bool.and_eq_true]
  refine ⟨by unfold litB; exact decide_eq_true (by omega), ?_⟩
  rw [Bool.or_eq_true]
  rcases Nat.eq_zero_or_pos j with h0 | h0
  · exact .inl (by simp [h0])
  · refine .inr (decide_eq_true ?_)
    have h2 := List.pairwise_iff_getElem.1 h (j - 1) j (by omega) hj (by omega)
    have e : ∀ k, (hk : k < l.length) → ix l k = l[k] := fun k hk => by simp [ix, List.getD_eq_getElem?_getD, List.getElem?_eq_getElem hk]
    have h3 := hr _ (ix_mem (show j - 1 < l.length by omega))
    rw [← e j hj, ← e (j - 1) (by omega)] at h2
    unfold ordI orI cmpI
    grind
theorem posP_sorted {r : GR} {n : Int} (h : orderedB r.body n = true) : ∀ k, k ≤ r.body.length → (fstL (posP r k)).Pairwise (· < ·)
  | 0, _ => by simp [posP, fstL]
  | k + 1, hk => by
    have ih := posP_sorted h k (by omega)
    unfold posP
    split
    · rename_i h0
      rw [fstL_snoc]
      refine List.pairwise_append.2 ⟨ih, by simp, fun x hx y hy => ?_⟩
      obtain rfl := List.mem_singleton.1 hy
      obtain ⟨z, hz, rfl⟩ := List.mem_map.1 hx
      obtain ⟨j, hj, h1, rfl⟩ := (posP_mem _).1 hz
      have h2 := ordered_lt h k (by omega) j hj
      unfold litKey at h2
      rw [if_pos (show 0 ≤ ix r.body j by omega), if_pos (show 0 ≤ ix r.body k by omega)] at h2
      show ix r.body j < ix r.body k
      omega
    · exact ih
theorem sumTo_congr {l l' : List Int} : ∀ k, (∀ j, j < k → ix l j = ix l' j) → sumTo l k = sumTo l' k
  | 0, _ => rfl
  | k + 1, h => by unfold sumTo; rw [sumTo_congr k (fun j hj => h j (by omega)), h k (by omega)]
theorem posP_weights {r : GR} (hw : ∀ k, k < r.body.length → 1 ≤ ix r.w k ∧ ix r.w k ≤ 1048576 - sumTo r.w k) : ∀ k, k ≤ r.body.length →
    sumTo (sndL (posP r k)) (posP r k).length ≤ sumTo r.w k ∧ ∀ j, j < (posP r k).length → 1 ≤ ix (sndL (posP r k)) j ∧ ix (sndL (posP r k)) j ≤ 1048576 - sumTo (sndL (posP r k)) j
  | 0, _ => by simp [posP, sumTo]
  | k + 1, hk => by
    obtain ⟨h1, h2⟩ := posP_weights hw k (by omega)
    have h3 := hw k (by omega)
    have e5 : sumTo r.w (k + 1) = sumTo r.w k + ix r.w k := rfl
    unfold posP
    split
    · have e1 : ∀ j, j < (posP r k).length → ix (sndL (posP r k ++ [(ix r.body k, ix r.w k)])) j = ix (sndL (posP r k)) j := fun j hj => by
        rw [sndL_snoc, ix_snoc_lt _ (by rw [sndL_len]; exact hj)]
      have e2 : ix (sndL (posP r k ++ [(ix r.body k, ix r.w k)])) (posP r k).length = ix r.w k := by
        rw [sndL_snoc, ← sndL_len (posP r k), ix_snoc]
      have e3 : ∀ j, j ≤ (posP r k).length → sumTo (sndL (posP r k ++ [(ix r.body k, ix r.w k)])) j = sumTo (sndL (posP r k)) j := fun j hj => sumTo_congr j fun i hi => e1 i (by omega)
      rw [List.length_append, List.length_singleton]
      refine ⟨?_, fun j hj => ?_⟩
      · show sumTo _ (posP r k).length + ix _ (posP r k).length ≤ _
        rw [e3 _ (Nat.le_refl _), e2]
        omega
      · by_cases e : j = (posP r k).length
        · subst e
          rw [e2, e3 _ (Nat.le_refl _)]
          omega
        · rw [e1 j (by omega), e3 j (by omega)]
          exact h2 j (by omega)
    · refine ⟨?_, h2⟩
      omega
theorem ruleE_zero {r : GR} {n : Int} (hn : 0 ≤ n ∧ n ≤ 4000) (h1 : increasingB r.head n = true) (h2 : r.choice = false) (h3 : orderedB r.body n = true) (h4 : r.sum = false → r.w.length = 0 ∧ r.bound = 0)
    (h5 : r.sum = true → weightsB r.w r.body.length = true ∧ 0 ≤ r.bound ∧ r.bound ≤ 1048576) : ruleE r n = 0 := by
  unfold ruleE
  rw [if_neg (by omega), if_neg (by rw [h1, h2]; simp), if_neg (by rw [h3]; simp), if_neg ?_]
  rintro (⟨hs, h⟩ | ⟨hs, h⟩)
  · have := h4 hs; omega
  · have h6 := h5 hs
    rw [h6.1] at h
    rcases h with h | h | h
    · cases h
    · omega
    · omega
theorem inc_one {a n : Int} (h : 1 ≤ a ∧ a ≤ n) : increasingB [a] n = true := by
  unfold increasingB
  rw [ord_of_sorted (by simp) (fun x hx => by obtain rfl := List.mem_singleton.1 hx; exact h), Bool.true_and]
  refine allR_true fun j hj => decide_eq_true ?_
  obtain rfl : j = 0 := by simpa using hj
  show 0 < a
  omega
theorem red_def {m : List Int} {r x : GR} {n : Int} (hr : BodyW r n) (hb : r.sum = false → r.bound = 0) (h : redB m r = some x) {hd : List Int} (h1 : increasingB hd n = true) (h2 : hd.length ≤ 1) : defAt n (withHead x hd) = true := by
  have hE : ruleE (withHead x hd) n = 0 ∧ ∀ j, j < (withHead x hd).body.length → 0 < ix (withHead x hd).body j := by
    unfold redB at h
    split at h
    · cases h
    · split at h
      · cases h
        exact ⟨ruleE_zero hr.v.rng h1 rfl rfl (fun _ => ⟨rfl, rfl⟩) (fun e => by cases e), fun j hj => by cases hj⟩
      · rename_i h3 h4
        cases h
        have hpos : ∀ y ∈ fstL (posP r r.body.length), 1 ≤ y ∧ y ≤ n := fun y hy => by
          obtain ⟨z, hz, rfl⟩ := List.mem_map.1 hy
          obtain ⟨j, hj, h5, rfl⟩ := (posP_mem _).1 hz
          have := hr.lit j hj
          show 1 ≤ ix r.body j ∧ ix r.body j ≤ n
          omega
        refine ⟨ruleE_zero hr.v.rng h1 rfl (ord_of_sorted (posP_sorted hr.v.ord _ (Nat.le_refl _)) hpos) (fun hs => ?_) (fun hs => ?_), fun j hj => ?_⟩
        · have hs : r.sum = false := hs
          refine ⟨?_, ?_⟩
          · show (if r.sum then sndL (posP r r.body.length) else []).length = 0
            rw [hs]; rfl
          · show r.bound - (if r.sum then negW m r r.body.length else 0) = 0
            rw [hs, hb hs]; rfl
        · have hs : r.sum = true := hs
          have hw := hr.wts hs
          have hn := negW_nonneg (m := m) (fun k hk => by have := (hw.2 k hk).1; omega) _ (Nat.le_refl _)
          have h5 : ¬ r.bound - negW m r r.body.length ≤ 0 := fun h => h4 ⟨hs, h⟩
          have hbd := hr.bound
          refine ⟨?_, ?_, ?_⟩
          · show weightsB (if r.sum then sndL (posP r r.body.length) else []) (fstL (posP r r.body.length)).length = true
            rw [hs, if_pos rfl]
            unfold weightsB
            rw [fstL_len, sndL_len, decide_eq_true rfl, Bool.and_true]
            exact allR_true fun j hj => decide_eq_true ((posP_weights hw.2 _ (Nat.le_refl _)).2 j hj)
          · show 0 ≤ r.bound - (if r.sum then negW m r r.body.length else 0)
            rw [hs, if_pos rfl]; omega
          · show r.bound - (if r.sum then negW m r r.body.length else 0) ≤ 1048576
            rw [hs, if_pos rfl]; omega
        · have := hpos _ (ix_mem hj)
          show 0 < ix (fstL (posP r r.body.length)) j
          omega
  unfold defAt
  rw [hE.1, decide_eq_true rfl, Bool.true_and]
  have hc : (withHead x hd).choice = false := by
    unfold redB at h
    split at h
    · cases h
    · split at h <;> (cases h; rfl)
  rw [hc, decide_eq_true (show (withHead x hd).head.length ≤ 1 from h2), anyR_false fun j hj => decide_eq_false (by have := hE.2 j hj; omega)]
  rfl
def flatP (p : GP) : Bool := allR p.rules.length (fun i => (ixR p.rules i).choice || decide ((ixR p.rules i).head.length ≤ 1))
theorem bodyW_valid {p : GP} (h : validE p = 0) : ∀ i, i < p.rules.length → BodyW (ixR p.rules i) p.n := fun _ hi =>
  (bodyV_valid h hi).full (rule_bound (ruleE_at h hi)).2
theorem rule_parts {r : GR} {n : Int} (h : ruleE r n = 0) : increasingB r.head n = true ∧ (r.sum = false → r.bound = 0) := by
  unfold ruleE at h
  split at h
  · cases h
  · split at h
    · cases h
    · split at h
      · cases h
      · split at h
        · cases h
        · rename_i h1 h2 h3 h4
          refine ⟨?_, fun hs => ?_⟩
          · cases hi : increasingB r.head n with
            | true => rfl
            | false => exact absurd (.inl hi) h2
          · by_cases e : r.bound = 0
            · exact e
            · exact absurd (.inl ⟨hs, .inr e⟩) h4
theorem red_definite {p : GP} {m : List Int} (hv : validE p = 0) (hf : flatP p = true) (hl : (redL p m).length ≤ 40000) : definiteB p.n (redL p m) = true := by
  have hn := (validP hv).n
  unfold definiteB
  rw [decide_eq_true (show 0 ≤ p.n ∧ p.n ≤ 4000 ∧ (redL p m).length ≤ 40000 from ⟨hn.1, hn.2, hl⟩), Bool.true_and]
  refine allR_true fun q hq => ?_
  obtain ⟨i, hi, h2⟩ := (redTo_mem _).1 (ixR_mem hq : ixR (redL p m) q ∈ redL p m)
  obtain ⟨y, hd, hr, e, h3⟩ := redR_mem.1 h2
  have hp := rule_parts (ruleE_at hv hi)
  rw [e]
  rcases h3 with ⟨hc, a, h4, h5, rfl⟩ | ⟨hc, rfl⟩
  · obtain ⟨j, hj, e2⟩ := mem_ix.1 h4
    have := inc_pos hp.1 hj
    exact red_def (bodyW_valid hv i hi) hp.2 hr (inc_one (by omega)) (by simp)
  · have := allR_get hf i hi
    rw [hc, Bool.false_or, decide_eq_true_eq] at this
    exact red_def (bodyW_valid hv i hi) hp.2 hr hp.1 this
theorem redR_len (m : List Int) (r : GR) : (redR m r).length ≤ r.head.length + 1 := by
  unfold redR
  split
  · simp
  · split
    · rw [List.length_map]
      have := List.length_filter_le (fun a => decide (a ∈ m)) r.head
      omega
    · simp
theorem redTo_len {p : GP} {m : List Int} {B : Nat} (h : ∀ i, i < p.rules.length → (ixR p.rules i).head.length ≤ B) : ∀ k, k ≤ p.rules.length → (redTo p m k).length ≤ k * (B + 1)
  | 0, _ => by simp [redTo]
  | k + 1, hk => by
    have ih := redTo_len (m := m) h k (by omega)
    have h1 := redR_len m (ixR p.rules k)
    have h2 := h k (by omega)
    unfold redTo
    rw [List.length_append, Nat.add_mul]
    omega
theorem ext_len {p : GP} {m : List Int} (hv : validE p = 0) (hm : setQ p.n m = true) : (extA p m).length = p.n.toNat + p.rules.length := by
  unfold extA; rw [if_pos ⟨hv, hm⟩, List.length_map, List.length_range]
theorem ext_ix {p : GP} {m : List Int} (hv : validE p = 0) (hm : setQ p.n m = true) {j : Nat} (hj : j < p.n.toNat + p.rules.length) : ix (extA p m) j = extAt p m j := by
  unfold extA; rw [if_pos ⟨hv, hm⟩]
  simp [ix, List.getD_eq_getElem?_getD, hj]
theorem off_lit {p : GP} {m : List Int} (hv : validE p = 0) (hm : setQ p.n m = true) {l : Int} (h1 : 1 ≤ l.natAbs) (h2 : (l.natAbs : Int) ≤ p.n) : offB (extA p m) l = !litT m l := by
  have hn := (validP hv).n
  have e1 := ext_ix hv hm (j := l.natAbs - 1) (by omega)
  have e2 : extAt p m (l.natAbs - 1) = if (l.natAbs : Int) ∈ m then 1 else -1 := by
    unfold extAt
    rw [if_pos (by omega), show ((l.natAbs - 1 : Nat) : Int) + 1 = l.natAbs by omega]
  unfold offB litT
  rw [e1, e2, ext_len hv hm, decide_eq_true (show l.natAbs ≤ p.n.toNat + p.rules.length by omega), Bool.true_and]
  by_cases hp : 0 < l
  · rw [if_pos hp, show (l.natAbs : Int) = l by omega]
    by_cases hl : l ∈ m
    · simp [hl, hp]
    · simp [hl, hp]
  · rw [if_neg hp, show (l.natAbs : Int) = -l by omega]
    by_cases hl : -l ∈ m
    · simp [hl, hp]
    · simp [hl, hp]
theorem setQ_sorted {n : Int} {m : List Int} (h : setQ n m = true) : m.Pairwise (· < ·) := by
  rw [List.pairwise_iff_getElem]
  have hs : ∀ d i, i + d + 1 < m.length → ix m i < ix m (i + d + 1) := by
    intro d
    induction d with
    | zero =>
      intro i hi
      have := allR_get h (i + 1) hi
      unfold setTo at this
      simp only [Bool.and_eq_true, Bool.or_eq_true, decide_eq_true_eq, beq_iff_eq] at this
      have h1 := this.2
      rw [Nat.add_sub_cancel] at h1
      exact h1.resolve_left (by omega)
    | succ d ih =>
      intro i hi
      have h1 := ih i (by omega)
      have := allR_get h (i + (d + 1) + 1) hi
      unfold setTo at this
      simp only [Bool.and_eq_true, Bool.or_eq_true, decide_eq_true_eq, beq_iff_eq] at this
      have h2 := this.2.resolve_left (by omega)
      rw [show i + (d + 1) + 1 - 1 = i + d + 1 by omega] at h2
      omega
  intro i j hi hj hij
  have e : ∀ k, (hk : k < m.length) → ix m k = m[k] := fun k hk => by simp [ix, List.getD_eq_getElem?_getD, List.getElem?_eq_getElem hk]
  rw [← e i hi, ← e j hj]
  have := hs (j - i - 1) i (by omega)
  rw [show i + (j - i - 1) + 1 = j by omega] at this
  exact this
theorem models_head {p : GP} {m : List Int} (hM : modelsB p m = true) (hf : flatP p = true) {i : Nat} (hi : i < p.rules.length) (hb : bodyT (ixR p.rules i) m = true) {x : Int} (hx : x ∈ (ixR p.rules i).head) (hc : (ixR p.rules i).choice = true → x ∈ m) : x ∈ m := by
  cases h1 : (ixR p.rules i).choice with
  | true => exact hc h1
  | false =>
    have h2 := allR_get hM i hi
    unfold satT at h2
    rw [h1, hb, Bool.false_or, Bool.not_true, Bool.false_or] at h2
    obtain ⟨j, hj, h3⟩ := List.any_eq_true.1 h2
    have hj := List.mem_range.1 hj
    have h3 : ix (ixR p.rules i).head j ∈ m := of_decide_eq_true h3
    have h4 := allR_get hf i hi
    rw [h1, Bool.false_or, decide_eq_true_eq] at h4
    obtain ⟨q, hq, rfl⟩ := mem_ix.1 hx
    obtain rfl : q = j := by omega
    exact h3
structure EqSt (w : World) (c d : PBC) (vl vk ul uk : Value) (W : World) : Prop where
  b1 : Blk W w.heap.size [vl, vk, .int .i64 c.bound] 46
  b2 : Blk W (w.heap.size + 1) [ul, uk, .int .i64 d.bound] 46
  below : Below w.heap.size w W
theorem EqSt.on {w : World} {c d : PBC} {vl vk ul uk : Value} {W W' : World} (h : EqSt w c d vl vk ul uk W) (hb : Below W.heap.size W W') : EqSt w c d vl vk ul uk W' := ⟨h.b1.below hb, h.b2.below hb, bon h.below hb⟩
def sg (l : List Nat) (r : Nat) : Nat := l.getD r (1000 + r)
def okB (l E : List Nat) : Bool :=
  ((List.range l.length).all fun i => (List.range l.length).all fun j => i == j || l.getD i 0 != l.getD j 0) && l.all (fun x => decide (x < 1000)) && E.all (fun x => decide (x < 1000)) && l.all (fun x => !E.contains x)
theorem sg_inj {l E : List Nat} (h : okB l E = true) {r s : Nat} (e : sg l r = sg l s) : r = s := by
  unfold okB at h
  simp only [Bool.and_eq_true, List.all_eq_true, List.mem_range, Bool.or_eq_true, beq_iff_eq, bne_iff_ne, decide_eq_true_eq] at h
  obtain ⟨⟨⟨h1, h2⟩, -⟩, -⟩ := h
  unfold sg at e
  have hg : ∀ i (hi : i < l.length), l.getD i (1000 + i) = l[i] := fun i hi => by simp [List.getD_eq_getElem?_getD, hi]
  have hn : ∀ i, l.length ≤ i → l.getD i (1000 + i) = 1000 + i := fun i hi => by rw [List.getD_eq_getElem?_getD, List.getElem?_eq_none hi]; rfl
  have hb : ∀ i (hi : i < l.length), l[i] < 1000 := fun i hi => h2 _ (List.getElem_mem hi)
  rcases Nat.lt_or_ge r l.length with hr | hr <;> rcases Nat.lt_or_ge s l.length with hs | hs
  · rcases h1 r hr s hs with h3 | h3
    · exact h3
    · rw [hg r hr, hg s hs] at e
      exact absurd (by simpa [List.getD_eq_getElem?_getD, hr, hs] using e) h3
  · rw [hg r hr, hn s hs] at e
    have := hb r hr
    omega
  · rw [hn r hr, hg s hs] at e
    have := hb s hs
    omega
  · rw [hn r hr, hn s hs] at e
    omega
theorem sg_out {l E : List Nat} (h : okB l E = true) {i : Nat} (hi : E.contains i = true) (r : Nat) : sg l r ≠ i := by
  unfold okB at h
  simp only [Bool.and_eq_true, List.all_eq_true, decide_eq_true_eq, Bool.not_eq_true'] at h
  obtain ⟨⟨⟨-, h2⟩, h3⟩, h4⟩ := h
  rintro rfl
  unfold sg at hi
  rcases Nat.lt_or_ge r l.length with hr | hr
  · have e : l.getD r (1000 + r) = l[r] := by simp [List.getD_eq_getElem?_getD, hr]
    rw [e, h4 _ (List.getElem_mem hr)] at hi
    cases hi
  · have e : l.getD r (1000 + r) = 1000 + r := by rw [List.getD_eq_getElem?_getD, List.getElem?_eq_none hr]; rfl
    rw [e] at hi
    have := h3 _ (List.contains_iff_mem.1 hi)
    omega
theorem upd_sg {α : Type} {l E : List Nat} (h : okB l E = true) (f : Nat → α) (r0 : Nat) (v : α) : (fun r => updN f (sg l r0) v (sg l r)) = updN (fun r => f (sg l r)) r0 v := by
  funext r
  unfold updN
  by_cases e : r = r0
  · subst e; rw [if_pos rfl, if_pos rfl]
  · rw [if_neg (fun e2 => e (sg_inj h e2)), if_neg e]
structure TS (l E : List Nat) (Q : Nat → Value) (w : World) (ob : Nat) (v1 v2 bd : Value) (l1 l2 : List Int) (x y : Int) (vals : Nat → Value) (L : Nat → Bool) (wx : World) : Prop where
  t : TW w ob v1 v2 bd l1 l2 x y (fun r => vals (sg l r)) (fun r => L (sg l r)) wx
  q : ∀ i, E.contains i = true → L i = true → vals i = Q i
section
variable {l E : List Nat} {Q : Nat → Value} {w : World} {ob : Nat} {v1 v2 bd : Value} {l1 l2 : List Int} {x y : Int} {vals : Nat → Value} {L : Nat → Bool} {wx : World}
theorem TS.start (hb : Blk w ob [v1, v2, bd] 46) (h1 : QRow (ob + 1) w v1 l1) (h2 : QRow (ob + 1) w v2 l2) (hf : Far v1 v2) : TS l E Q w ob v1 v2 bd l1 l2 x y (fun _ => undef) (fun _ => false) w.drew :=
  ⟨TW.start hb h1 h2 hf, fun _ _ h => Bool.noConfusion h⟩
theorem TS.keepQ (ok : okB l E = true) (h : ∀ i, E.contains i = true → L i = true → vals i = Q i) (r : Nat) (v : Value) : ∀ i, E.contains i = true → updN L (sg l r) true i = true → updN vals (sg l r) v i = Q i := fun i hi hL => by
  have hne : i ≠ sg l r := fun e => sg_out ok hi r e.symm
  unfold updN at hL ⊢
  rw [if_neg hne] at hL ⊢
  exact h i hi hL
theorem TS.quiet (ok : okB l E = true) (h : TS l E Q w ob v1 v2 bd l1 l2 x y vals L wx) (r : Nat) (hr : r = 0 ∨ r = 1 ∨ r = 2 ∨ r = 5 ∨ r = 6 ∨ r = 7 ∨ r = 10 ∨ r = 12) : TS l E Q w ob v1 v2 bd l1 l2 x y (updN vals (sg l r) (quietV ob v1 v2 x y r)) (updN L (sg l r) true) wx :=
  ⟨by rw [upd_sg ok, upd_sg ok]; exact h.t.quiet r hr, TS.keepQ ok h.q r _⟩
theorem TS.build3 (ok : okB l E = true) (h : TS l E Q w ob v1 v2 bd l1 l2 x y vals L wx) : TS l E Q w ob v1 v2 bd l1 l2 x y (updN vals (sg l 3) (.slice (some ⟨wx.heap.size, 0, none⟩) 1 1)) (updN L (sg l 3) true) (wx.alloc (.cells #[.int .i64 x] 3)) :=
  ⟨by rw [upd_sg ok, upd_sg ok]; exact h.t.build3, TS.keepQ ok h.q 3 _⟩
theorem TS.build8 (ok : okB l E = true) (h : TS l E Q w ob v1 v2 bd l1 l2 x y vals L wx) (hx : ∀ g, v1.ownBlock = some g → g < wx.heap.size) : TS l E Q w ob v1 v2 bd l1 l2 x y (updN vals (sg l 8) (.slice (some ⟨wx.heap.size, 0, none⟩) 1 1)) (updN L (sg l 8) true) (wx.alloc (.cells #[.int .i64 y] 3)) :=
  ⟨by rw [upd_sg ok, upd_sg ok]; exact h.t.build8 hx, TS.keepQ ok h.q 8 _⟩
theorem TS.app4 (ok : okB l E = true) (h : TS l E Q w ob v1 v2 bd l1 l2 x y vals L wx) (h4 : L (sg l 4) = false) (h9 : L (sg l 9) = false) (h11 : L (sg l 11) = false) {v' : Value} {w' : World} (hq : QRow (ob + 1) w' v' (l1 ++ [x])) (hg : wx.grownBy w' v1.ownBlock) (ho : v'.ownBlock = v1.ownBlock ∨ v'.ownBlock = some wx.heap.size) :
    TS l E Q w ob v1 v2 bd l1 l2 x y (updN vals (sg l 4) v') (updN L (sg l 4) true) w' :=
  ⟨by rw [upd_sg ok, upd_sg ok]; exact h.t.app4 h4 h9 h11 hq hg ho, TS.keepQ ok h.q 4 _⟩
theorem TS.app9 (ok : okB l E = true) (h : TS l E Q w ob v1 v2 bd l1 l2 x y vals L wx) (h4 : L (sg l 4) = true) (h9 : L (sg l 9) = false) (h13 : L (sg l 13) = false) {v' : Value} {w' : World} (hq : QRow (ob + 1) w' v' (l2 ++ [y])) (hg : wx.grownBy w' v2.ownBlock) (ho : v'.ownBlock = v2.ownBlock ∨ v'.ownBlock = some wx.heap.size) :
    TS l E Q w ob v1 v2 bd l1 l2 x y (updN vals (sg l 9) v') (updN L (sg l 9) true) w' :=
  ⟨by rw [upd_sg ok, upd_sg ok]; exact h.t.app9 h4 h9 h13 hq hg ho, TS.keepQ ok h.q 9 _⟩
theorem TS.store (ok : okB l E = true) (h : TS l E Q w ob v1 v2 bd l1 l2 x y vals L wx) (r : Nat) (h4 : L (sg l 4) = true) (h9 : L (sg l 9) = true) (hr : r = 11 ∨ r = 13) (u : Value) :
    TS l E Q w ob v1 v2 bd l1 l2 x y (updN vals (sg l r) u) (updN L (sg l r) true) (wx.setCell ⟨ob, if r = 11 then 0 else 1, none⟩ (if r = 11 then vals (sg l 4) else vals (sg l 9))) :=
  ⟨by rw [upd_sg ok, upd_sg ok]; exact h.t.store r h4 h9 hr u, TS.keepQ ok h.q r _⟩
theorem TS.end (h : TS l E Q w ob v1 v2 bd l1 l2 x y vals L wx) (hL : ∀ r, r < 14 → L (sg l r) = true) : Blk wx ob [vals (sg l 4), vals (sg l 9), bd] 46 ∧ QRow (ob + 1) wx (vals (sg l 4)) (l1 ++ [x]) ∧ QRow (ob + 1) wx (vals (sg l 9)) (l2 ++ [y]) ∧ Far (vals (sg l 4)) (vals (sg l 9)) ∧ Below ob w wx :=
  h.t.end hL
end
theorem QRow.setAt {base g off n cap : Nat} {w : World} {l : List Int} (h : QRow base w (.slice (some ⟨g, off, none⟩) n cap) l) {i : Nat} (hi : i < l.length) {x : Int} (hx : InI x) : QRow base (w.setCell ⟨g, off + i, none⟩ (.int .i64 x)) (.slice (some ⟨g, off, none⟩) n cap) (l.set i x) ∧ w.frozen? ⟨g, off + i, none⟩ = false ∧ w.cell? ⟨g, off + i, none⟩ = some (.int .i64 (ix l i)) := by
  rcases h.2 with ⟨e, _⟩ | ⟨g', off', cap', cur, e, hb, hg, h1, h2, h3, h4⟩
  · cases e
  · simp only [Value.slice.injEq, Option.some.injEq, Addr.mk.injEq] at e
    obtain ⟨⟨rfl, rfl, -⟩, rfl, rfl⟩ := e
    have hB : Blk w g cur.toList 3 := by unfold Blk; rw [hg]
    refine ⟨⟨fitI fun y hy => ?_, .inr ⟨g, off, cap, cur.setIfInBounds (off + i) (.int .i64 x), by rw [List.length_set], hb, ?_, by rw [List.length_set]; exact h1, h2, ?_, fun j hj => ?_⟩⟩, hB.free _, ?_⟩
    · rcases List.mem_or_eq_of_mem_set hy with h5 | rfl
      · obtain ⟨j, hj, rfl⟩ := List.mem_iff_getElem.1 h5
        have h6 := h.1 j
        unfold ix at h6
        rw [List.getD_eq_getElem?_getD, List.getElem?_eq_getElem hj] at h6
        exact h6
      · exact hx
    · have := hB.set (off + i) (.int .i64 x)
      unfold Blk at this
      rw [this, show (cur.toList.set (off + i) (Value.int .i64 x)).toArray = cur.setIfInBounds (off + i) (.int .i64 x) from Array.toList_inj.1 (by simp)]
    · simpa using h3
    · rw [List.length_set] at hj
      by_cases e : j = i
      · subst e
        have hlt : off + j < cur.size := by have := h4 j hj; exact (Array.getElem?_eq_some_iff.1 this).1
        rw [Array.getElem?_setIfInBounds_self_of_lt hlt]
        simp [ix, List.getD_eq_getElem?_getD, hj]
      · rw [Array.getElem?_setIfInBounds_ne (by omega), h4 j hj]
        unfold ix
        rw [List.getD_eq_getElem?_getD, List.getD_eq_getElem?_getD, List.getElem?_set_ne (Ne.symm e)]
    · have := h4 i hi
      simp [World.cell?, hg, this]
structure RN3 (w2 : World) (ob : Nat) (vl vk : Value) (ll lk : List Int) (wx : World) : Prop where
  out : Blk wx ob [vl, vk, .int .i64 0] 46
  rl : QRow (ob + 1) wx vl ll
  rk : QRow (ob + 1) wx vk lk
  far : Far vl vk
  below : Below ob w2 wx
theorem RN3.on {w2 : World} {ob : Nat} {vl vk : Value} {ll lk : List Int} {wx wy : World} (h : RN3 w2 ob vl vk ll lk wx) (hb : Below wx.heap.size wx wy) : RN3 w2 ob vl vk ll lk wy :=
  ⟨h.out.below hb, h.rl.below hb, h.rk.below hb, h.far, h.below.trans (hb.mono (Nat.le_of_lt h.out.lt))⟩
theorem RN3.next {w2 : World} {ob : Nat} {vl vk vl' vk' : Value} {ll lk ll' lk' : List Int} {wx wy : World} (h : RN3 w2 ob vl vk ll lk wx) (hb : Below ob wx wy) (ho : Blk wy ob [vl', vk', .int .i64 0] 46) (h1 : QRow (ob + 1) wy vl' ll') (h2 : QRow (ob + 1) wy vk' lk') (hf : Far vl' vk') : RN3 w2 ob vl' vk' ll' lk' wy :=
  ⟨ho, h1, h2, hf, h.below.trans hb⟩
theorem RN3.cap {w2 : World} {ob g off n cap : Nat} {vl : Value} {ll lk : List Int} {wx : World} (h : RN3 w2 ob vl (.slice (some ⟨g, off, none⟩) n cap) ll lk wx) {i : Nat} (hi : i < lk.length) {x : Int} (hx : InI x) :
    RN3 w2 ob vl (.slice (some ⟨g, off, none⟩) n cap) ll (lk.set i x) (wx.setCell ⟨g, off + i, none⟩ (.int .i64 x)) ∧ wx.frozen? ⟨g, off + i, none⟩ = false ∧ wx.cell? ⟨g, off + i, none⟩ = some (.int .i64 (ix lk i)) := by
  obtain ⟨h1, h2, h3⟩ := h.rk.setAt hi hx
  have hg := (h.rk.base (g := g) rfl).1
  refine ⟨⟨h.out.setOther _ _ (by omega), h.rl.kept fun j hj _ hv => Below.heap_setCell _ _ _ _ fun e => h.far j hv (congrArg some e.symm), h1, h.far, h.below.setCell (p := ⟨g, off + i, none⟩) (by show ob ≤ g; omega) _⟩, h2, h3⟩
structure AlSt (w : World) (cp : List Value) (rb : Nat) (cr : List Value) (r : GR) (vh vb vw vS vD : Value) (S D : List Int) (W : World) : Prop where
  pbx : Blk W w.heap.size cp 27
  rbx : Blk W rb cr 55
  sl : RuleSl W r vh vb vw
  set : Ints W vS S
  dd : Ints W vD D
  below : Below w.heap.size w W
theorem AlSt.on {w : World} {cp : List Value} {rb : Nat} {cr : List Value} {r : GR} {vh vb vw vS vD : Value} {S D : List Int} {W W' : World} (h : AlSt w cp rb cr r vh vb vw vS vD S D W) (hb : Below W.heap.size W W') : AlSt w cp rb cr r vh vb vw vS vD S D W' :=
  ⟨h.pbx.below hb, h.rbx.below hb, h.sl.below hb, h.set.below hb, h.dd.below hb, bon h.below hb⟩
theorem AlSt.rule {w : World} {cp : List Value} {rb : Nat} {cr : List Value} {r : GR} {vh vb vw vS vD : Value} {S D : List Int} {W : World} (h : AlSt w cp rb cr r vh vb vw vS vD S D W) : RuleIs W (.agg #[.bool r.choice, vh, .bool r.sum, .int .i64 r.bound, vb, vw]) r := ⟨_, _, _, rfl, h.sl⟩
end Go.Proofs.YtjodocheiejkeaaGreatDoor
namespace Go.Proofs.YtjodocheiejkeaaGreatDoor
theorem any_ix (l : List Int) (f : Int → Bool) : anyR l.length (fun j => f (ix l j)) = l.any f := by
  rw [Bool.eq_iff_iff]
  constructor
  · intro h
    unfold anyR at h
    obtain ⟨j, hj, hf⟩ := List.any_eq_true.1 h
    exact List.any_eq_true.2 ⟨_, ix_mem (List.mem_range.1 hj), hf⟩
  · intro h
    obtain ⟨x, hx, hf⟩ := List.any_eq_true.1 h
    obtain ⟨j, hj, rfl⟩ := mem_ix.1 hx
    exact anyR_true j hj hf
end Go.Proofs.YtjodocheiejkeaaGreatDoor
namespace Go.Proofs.YtjodocheiejkeaaGreatDoor
def ClosedM (p : GP) (m T : List Int) : Prop := ∀ i, i < p.rules.length → avT T m (ixR p.rules i) = true →
  ((ixR p.rules i).choice = true → ∀ x ∈ (ixR p.rules i).head, x ∈ m → x ∈ T) ∧ ((ixR p.rules i).choice = false → ∃ x ∈ (ixR p.rules i).head, x ∈ T)
structure StabD (p : GP) (m : List Int) : Prop where
  model : modelsB p m = true
  least : ∀ T, (∀ x ∈ T, x ∈ m) → ClosedM p m T → ∀ x ∈ m, x ∈ T
theorem models_ex {p : GP} {m : List Int} (hM : modelsB p m = true) {i : Nat} (hi : i < p.rules.length) (hb : bodyT (ixR p.rules i) m = true) (hc : (ixR p.rules i).choice = false) : ∃ x ∈ (ixR p.rules i).head, x ∈ m := by
  have h2 := allR_get hM i hi
  unfold satT at h2
  rw [hc, hb, Bool.false_or, Bool.not_true, Bool.false_or] at h2
  obtain ⟨j, hj, h3⟩ := List.any_eq_true.1 h2
  exact ⟨_, ix_mem (List.mem_range.1 hj), of_decide_eq_true h3⟩
theorem stabD_sup {p : GP} {m : List Int} (hv : validE p = 0) (h : StabD p m) : suppB p m = true := by
  have hB := bodyW_valid hv
  unfold suppB
  rw [h.model, Bool.true_and]
  refine allR_true fun j hj => ?_
  cases hany : anyR p.rules.length (fun i => bodyT (ixR p.rules i) m && decide (ix m j ∈ (ixR p.rules i).head)) with
  | true => rfl
  | false =>
    have hx : ix m j ∈ m := ix_mem hj
    have hno : ∀ i, i < p.rules.length → bodyT (ixR p.rules i) m = true → ix m j ∉ (ixR p.rules i).head := fun i hi hb hx2 => by
      have := List.any_eq_false.1 hany i (List.mem_range.2 hi)
      exact this (by rw [hb, decide_eq_true hx2]; rfl)
    have hc : ClosedM p m (m.filter fun y => decide (y ≠ ix m j)) := fun i hi ha => by
      have hb : bodyT (ixR p.rules i) m = true := by rw [← avT_self]; exact avT_mono (fun z hz => (List.mem_filter.1 hz).1) (hB i hi) ha
      refine ⟨fun _ y hy hym => List.mem_filter.2 ⟨hym, decide_eq_true fun e2 => hno i hi hb (e2 ▸ hy)⟩, fun hch => ?_⟩
      obtain ⟨y, hy, hym⟩ := models_ex h.model hi hb hch
      exact ⟨y, hy, List.mem_filter.2 ⟨hym, decide_eq_true fun e2 => hno i hi hb (e2 ▸ hy)⟩⟩
    have := (List.mem_filter.1 (h.least _ (fun z hz => (List.mem_filter.1 hz).1) hc _ hx)).2
    simp at this
end Go.Proofs.YtjodocheiejkeaaGreatDoor
