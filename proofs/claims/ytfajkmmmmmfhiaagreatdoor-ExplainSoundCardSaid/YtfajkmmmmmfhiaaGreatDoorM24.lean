/- My texts StabP, Pb0, PbV, CpP, Aw0, NrmR, Ex2, Sm20, StH, CpA, CpB, PermK, Aw2, Lw26, RngR, merged. -/
import Derived.Test.YtfajkmmmmmfhiaaGreatDoorM06
import Derived.Test.YtfajkmmmmmfhiaaGreatDoorM05
import Derived.Test.YtfajkmmmmmfhiaaGreatDoorM04
import Derived.Test.YtfajkmmmmmfhiaaGreatDoorM22
import Derived.Test.YtfajkmmmmmfhiaaGreatDoorM03
import Derived.Test.YtfajkmmmmmfhiaaGreatDoorM00
import Derived.Test.YtfajkmmmmmfhiaaGreatDoorProg
import Derived.WalkKit
import Derived.Lib.Hide
import Derived.Deep.QuietTactic
import Derived.BigQuiet
import Derived.WalkSpells
import Derived.Lib.SliceRun
import Derived.MapKept
import Derived.Maps.OwnSet
import Derived.Maps.OwnOps
import Derived.Test.YtfajkmmmmmfhiaaGreatDoorM02
import Derived.Test.YtfajkmmmmmfhiaaGreatDoorM20
import Derived.Test.YtfajkmmmmmfhiaaGreatDoorM01
import Derived.Deep.AppendLies
import Derived.Lib.Bytealg
import Derived.Deep.DeepCutAuto
import Derived.Laws.EntriesVeiled
import Derived.Deep.RegionWith
import Derived.Deep.OwnRows
import Derived.RangeFuncNested
import Derived.RangeFuncBound
import Derived.RangeFuncCalls
import Derived.RangeFuncLeaves
import Derived.OwnWalkIn
import Derived.TacticsInMore
import Derived.LoopNIn
import Derived.LoopIn
import Derived.Stop.RegionWithIn
import Derived.Shelf.Abstract
import Derived.Test.YtfajkmmmmmfhiaaGreatDoorM07
import Derived.Test.YtfajkmmmmmfhiaaGreatDoorM23
import Derived.Deep.LoopGhost
import Derived.Deep.DrawnRows
import Derived.Test.YtfajkmmmmmfhiaaGreatDoorM09
import Derived.Test.YtfajkmmmmmfhiaaGreatDoorM12
import Derived.Test.YtfajkmmmmmfhiaaGreatDoorM14
import Derived.Shelf.Sort.Plain
import Derived.Shelf.Slices.CompactI
import Derived.Shelf.Slices.In.SortNone
import Derived.Shelf.Strconv.Itoa3
import Derived.Shelf.Strings.BuilderK
import Derived.Shelf.Slices.SearchI
import Derived.Shelf.Slices.Empties
import Derived.Sort.QuietThIn
import Derived.Test.YtfajkmmmmmfhiaaGreatDoorM15
import Derived.Deep.AppendSrc
import Derived.Maps.RangeWalk
import Derived.Lib.SlicesCompact
import Derived.Sort.OwnSortedInts
import Derived.RangeFuncBox
import Derived.Maps.OwnIn
import Derived.Lib.RowBridge
import Derived.Test.YtfajkmmmmmfhiaaGreatDoorM11
import Derived.Test.YtfajkmmmmmfhiaaGreatDoorM13
import Derived.Deep.DeepMust
import Derived.Test.YtfajkmmmmmfhiaaGreatDoorM17
import Derived.ProofKit
import Derived.OpenShut
import Derived.ChangeArms
import Derived.SizedLaws

namespace Go.Proofs.YtfajkmmmmmfhiaaGreatDoor
open Go.RowKit
def posP (r : GR) : Nat → List (Int × Int)
  | 0 => []
  | k + 1 => if 0 < ix r.body k then posP r k ++ [(ix r.body k, ix r.w k)] else posP r k
def negW (m : List Int) (r : GR) : Nat → Int
  | 0 => 0
  | k + 1 => negW m r k + if ix r.body k < 0 ∧ -(ix r.body k) ∉ m then ix r.w k else 0
def fstL (l : List (Int × Int)) : List Int := l.map (·.1)
def sndL (l : List (Int × Int)) : List Int := l.map (·.2)
def emptyR : GR := ⟨false, [], false, 0, [], []⟩
def negF (m : List Int) (r : GR) (k : Nat) : Bool := anyR k (fun j => decide (ix r.body j < 0) && decide (-(ix r.body j) ∈ m))
def redAt (m : List Int) (r : GR) (k : Nat) : GR := ⟨false, [], r.sum, r.bound - (if r.sum then negW m r k else 0), fstL (posP r k), if r.sum then sndL (posP r k) else []⟩
def redB (m : List Int) (r : GR) : Option GR :=
  if r.sum = false ∧ negF m r r.body.length = true then none
  else if r.sum = true ∧ r.bound - negW m r r.body.length ≤ 0 then some emptyR
  else some (redAt m r r.body.length)
def withHead (x : GR) (h : List Int) : GR := { x with head := h }
def redR (m : List Int) (r : GR) : List GR :=
  match redB m r with
  | none => []
  | some x => if r.choice then (r.head.filter (fun a => decide (a ∈ m))).map (fun a => withHead x [a]) else [withHead x r.head]
def redTo (p : GP) (m : List Int) : Nat → List GR
  | 0 => []
  | k + 1 => redTo p m k ++ redR m (ixR p.rules k)
def redL (p : GP) (m : List Int) : List GR := redTo p m p.rules.length
theorem hlT_mono {T T' m : List Int} (h : ∀ x ∈ T, x ∈ T') {l : Int} (hl : hlT T m l = true) : hlT T' m l = true := by
  unfold hlT at *
  split at hl
  · rename_i h0
    rw [if_pos h0]
    exact decide_eq_true (h _ (of_decide_eq_true hl))
  · rename_i h0
    rw [if_neg h0]
    exact hl
theorem avW_mono {T T' m : List Int} {r : GR} (h : ∀ x ∈ T, x ∈ T') (hw : ∀ k, k < r.body.length → 0 ≤ ix r.w k) : ∀ k, k ≤ r.body.length → avW T m r k ≤ avW T' m r k
  | 0, _ => Int.le_refl _
  | k + 1, hk => by
    have ih := avW_mono (m := m) h hw k (by omega)
    have h0 := hw k (by omega)
    unfold avW
    by_cases e : hlT T m (ix r.body k) = true
    · rw [if_pos e, if_pos (hlT_mono h e)]; omega
    · rw [if_neg e]; split <;> omega
structure BodyW (r : GR) (n : Int) : Prop where
  v : BodyV r n
  lit : ∀ j, j < r.body.length → ix r.body j ≠ 0 ∧ -n ≤ ix r.body j ∧ ix r.body j ≤ n
  wts : r.sum = true → r.w.length = r.body.length ∧ ∀ k, k < r.body.length → 1 ≤ ix r.w k ∧ ix r.w k ≤ 1048576 - sumTo r.w k
  bound : r.bound ≤ 1048576
theorem BodyV.full {r : GR} {n : Int} (h : BodyV r n) (hb : r.bound ≤ 1048576) : BodyW r n where
  v := h
  lit := fun j hj => ordered_lit h.ord (ix_mem hj)
  wts := fun hs => by
    have := h.sum hs
    unfold weightsB at this
    rw [Bool.and_eq_true, decide_eq_true_eq] at this
    obtain ⟨h1, h2⟩ := this
    have h3 : r.w.length = r.body.length := by omega
    exact ⟨h3, fun k hk => of_decide_eq_true (allR_get h1 k (by omega))⟩
  bound := hb
theorem avT_mono {T T' m : List Int} {r : GR} {n : Int} (h : ∀ x ∈ T, x ∈ T') (hr : BodyW r n) (ha : avT T m r = true) : avT T' m r = true := by
  unfold avT at *
  cases hs : r.sum with
  | true =>
    rw [hs] at ha
    rw [if_pos rfl] at ha ⊢
    rw [decide_eq_true_eq] at ha ⊢
    exact Int.le_trans ha (avW_mono h (fun k hk => by have := ((hr.wts hs).2 k hk).1; omega) _ (Nat.le_refl _))
  | false =>
    rw [hs] at ha
    rw [if_neg (by simp)] at ha ⊢
    exact allR_true fun j hj => hlT_mono h (allR_get ha j hj)
theorem lhsTo_agree {T : List Int} {r r' : GR} : ∀ k, (∀ j, j < k → ix r.body j = ix r'.body j ∧ wOf r j = wOf r' j) → lhsTo T r k = lhsTo T r' k
  | 0, _ => rfl
  | k + 1, h => by
    unfold lhsTo
    rw [lhsTo_agree k (fun j hj => h j (by omega)), (h k (by omega)).1, (h k (by omega)).2]
theorem ix_snoc (l : List Int) (x : Int) : ix (l ++ [x]) l.length = x := by simp [ix]
theorem ix_snoc_lt {l : List Int} (x : Int) {j : Nat} (hj : j < l.length) : ix (l ++ [x]) j = ix l j := by
  simp [ix, List.getD_eq_getElem?_getD, List.getElem?_append_left hj]
theorem fstL_snoc (l : List (Int × Int)) (x : Int × Int) : fstL (l ++ [x]) = fstL l ++ [x.1] := by simp [fstL]
theorem sndL_snoc (l : List (Int × Int)) (x : Int × Int) : sndL (l ++ [x]) = sndL l ++ [x.2] := by simp [sndL]
theorem fstL_len (l : List (Int × Int)) : (fstL l).length = l.length := by simp [fstL]
theorem sndL_len (l : List (Int × Int)) : (sndL l).length = l.length := by simp [sndL]
def payP (T : List Int) (r : GR) : Nat → Int
  | 0 => 0
  | k + 1 => payP T r k + if 0 < ix r.body k ∧ ix r.body k ∈ T then ix r.w k else 0
theorem lhs_posP (T : List Int) (r : GR) (bd : Int) : ∀ k, lhsTo T ⟨false, [], true, bd, fstL (posP r k), sndL (posP r k)⟩ (posP r k).length = payP T r k
  | 0 => rfl
  | k + 1 => by
    have ih := lhs_posP T r bd k
    unfold posP payP
    by_cases h0 : 0 < ix r.body k
    · rw [if_pos h0, List.length_append, List.length_singleton]
      show lhsTo T _ (posP r k).length + (if ix (fstL (posP r k ++ [(ix r.body k, ix r.w k)])) (posP r k).length ∈ T then ix (sndL (posP r k ++ [(ix r.body k, ix r.w k)])) (posP r k).length else 0) = _
      have e1 : ix (fstL (posP r k ++ [(ix r.body k, ix r.w k)])) (posP r k).length = ix r.body k := by
        rw [fstL_snoc, ← fstL_len (posP r k), ix_snoc]
      have e2 : ix (sndL (posP r k ++ [(ix r.body k, ix r.w k)])) (posP r k).length = ix r.w k := by
        rw [sndL_snoc, ← sndL_len (posP r k), ix_snoc]
      rw [e1, e2, ← ih]
      congr 1
      · refine lhsTo_agree _ fun j hj => ⟨?_, ?_⟩
        · show ix (fstL _) j = ix (fstL _) j
          rw [fstL_snoc, ix_snoc_lt _ (by rw [fstL_len]; exact hj)]
        · show ix (sndL _) j = ix (sndL _) j
          rw [sndL_snoc, ix_snoc_lt _ (by rw [sndL_len]; exact hj)]
      · simp only [h0, true_and]
    · rw [if_neg h0, if_neg (fun h => h0 h.1)]
      omega
theorem avW_parts {T m : List Int} {r : GR} (h : ∀ j, j < r.body.length → ix r.body j ≠ 0) : ∀ k, k ≤ r.body.length → avW T m r k = negW m r k + payP T r k
  | 0, _ => rfl
  | k + 1, hk => by
    have ih := avW_parts (T := T) (m := m) h k (by omega)
    have h0 := h k (by omega)
    unfold avW negW payP hlT
    rw [ih]
    by_cases e : 0 < ix r.body k
    · rw [if_pos e, if_neg (show ¬ (ix r.body k < 0 ∧ -(ix r.body k) ∉ m) from fun h => by omega)]
      simp only [e, true_and, decide_eq_true_eq]
      omega
    · rw [if_neg e, if_neg (show ¬ (0 < ix r.body k ∧ ix r.body k ∈ T) from fun h => e h.1)]
      have e2 : ix r.body k < 0 := by omega
      simp only [e2, true_and, Bool.not_eq_true', decide_eq_false_iff_not]
      omega
theorem payP_nonneg {T : List Int} {r : GR} (hw : ∀ k, k < r.body.length → 0 ≤ ix r.w k) : ∀ k, k ≤ r.body.length → 0 ≤ payP T r k
  | 0, _ => Int.le_refl _
  | k + 1, hk => by
    have ih := payP_nonneg (T := T) hw k (by omega)
    have := hw k (by omega)
    unfold payP; split <;> omega
theorem negW_nonneg {m : List Int} {r : GR} (hw : ∀ k, k < r.body.length → 0 ≤ ix r.w k) : ∀ k, k ≤ r.body.length → 0 ≤ negW m r k
  | 0, _ => Int.le_refl _
  | k + 1, hk => by
    have ih := negW_nonneg (m := m) hw k (by omega)
    have := hw k (by omega)
    unfold negW; split <;> omega
theorem posP_mem {r : GR} {y : Int × Int} : ∀ k, y ∈ posP r k ↔ ∃ j, j < k ∧ 0 < ix r.body j ∧ y = (ix r.body j, ix r.w j)
  | 0 => by simp [posP]
  | k + 1 => by
    have ih := posP_mem (r := r) (y := y) k
    unfold posP
    split
    · rename_i h0
      rw [List.mem_append, List.mem_singleton, ih]
      constructor
      · rintro (⟨j, hj, h1, h2⟩ | rfl)
        · exact ⟨j, by omega, h1, h2⟩
        · exact ⟨k, by omega, h0, rfl⟩
      · rintro ⟨j, hj, h1, h2⟩
        by_cases e : j = k
        · subst e; exact .inr h2
        · exact .inl ⟨j, by omega, h1, h2⟩
    · rename_i h0
      rw [ih]
      constructor
      · rintro ⟨j, hj, h1, h2⟩; exact ⟨j, by omega, h1, h2⟩
      · rintro ⟨j, hj, h1, h2⟩
        by_cases e : j = k
        · subst e; exact absurd h1 h0
        · exact ⟨j, by omega, h1, h2⟩
theorem posP_len (r : GR) : ∀ k, (posP r k).length ≤ k
  | 0 => Nat.le_refl _
  | k + 1 => by
    have := posP_len r k
    unfold posP; split
    · rw [List.length_append, List.length_singleton]; omega
    · omega
theorem withHead_need (x : GR) (h : List Int) (T : List Int) : need0 (withHead x h) = need0 x ∧ lhs T (withHead x h) = lhs T x := by
  refine ⟨rfl, ?_⟩
  unfold lhs
  exact lhsTo_agree _ fun j _ => ⟨rfl, rfl⟩
theorem red_none {m : List Int} {r : GR} (T : List Int) (h : redB m r = none) : avT T m r = false := by
  unfold redB at h
  split at h
  · rename_i h1
    unfold avT
    rw [if_neg (by rw [h1.1]; simp)]
    obtain ⟨h2, h3⟩ := h1
    unfold negF anyR at h3
    obtain ⟨j, hj, h4⟩ := List.any_eq_true.1 h3
    rw [Bool.and_eq_true, decide_eq_true_eq, decide_eq_true_eq] at h4
    refine allR_false j (List.mem_range.1 hj) ?_
    unfold hlT
    rw [if_neg (by omega), decide_eq_true h4.2]
    rfl
  · split at h <;> cases h
theorem red_some {m : List Int} {r x : GR} {n : Int} (T : List Int) (hr : BodyW r n) (h : redB m r = some x) : need0 x ≤ lhs T x ↔ avT T m r = true := by
  have hlit := hr.lit
  unfold redB at h
  split at h
  · cases h
  · rename_i h1
    cases hs : r.sum with
    | true =>
      have hw : ∀ k, k < r.body.length → 0 ≤ ix r.w k := fun k hk => by have := ((hr.wts hs).2 k hk).1; omega
      have e1 : avT T m r = decide (r.bound ≤ avW T m r r.body.length) := by unfold avT; rw [if_pos hs]
      rw [e1, decide_eq_true_eq, avW_parts (fun j hj => (hlit j hj).1) _ (Nat.le_refl _)]
      have hp := payP_nonneg (T := T) hw _ (Nat.le_refl _)
      split at h
      · rename_i h2
        cases h
        have : need0 emptyR = 0 := rfl
        have : lhs T emptyR = 0 := rfl
        omega
      · cases h
        have e2 : redAt m r r.body.length = ⟨false, [], true, r.bound - negW m r r.body.length, fstL (posP r r.body.length), sndL (posP r r.body.length)⟩ := by
          unfold redAt; rw [hs]; rfl
        rw [e2]
        have e3 := lhs_posP T r (r.bound - negW m r r.body.length) r.body.length
        unfold lhs
        show r.bound - negW m r r.body.length ≤ lhsTo T _ (fstL (posP r r.body.length)).length ↔ _
        rw [fstL_len, e3]
        omega
    | false =>
      rw [if_neg (by rw [hs]; simp)] at h
      cases h
      have e1 : avT T m r = allR r.body.length (fun j => hlT T m (ix r.body j)) := by unfold avT; rw [if_neg (by rw [hs]; simp)]
      rw [e1]
      have hx : (redAt m r r.body.length).sum = false := hs
      have h2 := (lhs_all (M := T) hx (redAt m r r.body.length).body.length).2
      have h3 : need0 (redAt m r r.body.length) = (redAt m r r.body.length).body.length := by unfold need0; rw [if_neg (by rw [hx]; simp)]
      rw [h3]
      unfold lhs
      rw [h2]
      constructor
      · intro h4
        refine allR_true fun j hj => ?_
        unfold hlT
        by_cases e : 0 < ix r.body j
        · rw [if_pos e]
          have h5 : ix r.body j ∈ fstL (posP r r.body.length) := List.mem_map.2 ⟨_, (posP_mem _).2 ⟨j, hj, e, rfl⟩, rfl⟩
          obtain ⟨q, hq, h6⟩ := mem_ix.1 h5
          exact decide_eq_true (h6 ▸ h4 q hq)
        · rw [if_neg e]
          have h5 := (hlit j hj).1
          have h6 : negF m r r.body.length = false := by
            cases hn : negF m r r.body.length with
            | false => rfl
            | true => exact absurd ⟨hs, hn⟩ h1
          have h7 : (decide (ix r.body j < 0) && decide (-(ix r.body j) ∈ m)) = false := by
            have := List.any_eq_false.1 h6 j (List.mem_range.2 hj)
            simpa using this
          rw [decide_eq_true (show ix r.body j < 0 by omega), Bool.true_and] at h7
          rw [h7]; rfl
      · intro h4 q hq
        have h5 : ix (fstL (posP r r.body.length)) q ∈ fstL (posP r r.body.length) := ix_mem hq
        obtain ⟨y, hy, h6⟩ := List.mem_map.1 h5
        obtain ⟨j, hj, h7, rfl⟩ := (posP_mem _).1 hy
        have h8 := allR_get h4 j hj
        unfold hlT at h8
        rw [if_pos h7, decide_eq_true_eq] at h8
        show ix (fstL (posP r r.body.length)) q ∈ T
        rw [← h6]; exact h8
theorem redTo_mem {p : GP} {m : List Int} {y : GR} : ∀ k, y ∈ redTo p m k ↔ ∃ i, i < k ∧ y ∈ redR m (ixR p.rules i)
  | 0 => by simp [redTo]
  | k + 1 => by
    unfold redTo
    rw [List.mem_append, redTo_mem k]
    constructor
    · rintro (⟨i, hi, h⟩ | h)
      · exact ⟨i, by omega, h⟩
      · exact ⟨k, by omega, h⟩
    · rintro ⟨i, hi, h⟩
      by_cases e : i = k
      · subst e; exact .inr h
      · exact .inl ⟨i, by omega, h⟩
theorem redR_mem {m : List Int} {r y : GR} : y ∈ redR m r ↔ ∃ x h, redB m r = some x ∧ y = withHead x h ∧ ((r.choice = true ∧ ∃ a, a ∈ r.head ∧ a ∈ m ∧ h = [a]) ∨ (r.choice = false ∧ h = r.head)) := by
  unfold redR
  cases hx : redB m r with
  | none => simp
  | some x =>
    cases hc : r.choice with
    | true =>
      simp only [if_true, List.mem_map, List.mem_filter, decide_eq_true_eq, Option.some.injEq]
      constructor
      · rintro ⟨a, ⟨h1, h2⟩, rfl⟩
        exact ⟨x, [a], rfl, rfl, .inl ⟨by first | trivial | rfl, a, h1, h2, rfl⟩⟩
      · rintro ⟨x', h, rfl, rfl, (⟨-, a, h1, h2, rfl⟩ | ⟨e, -⟩)⟩
        · exact ⟨a, ⟨h1, h2⟩, rfl⟩
        · cases e
    | false =>
      simp only [Bool.false_eq_true, if_false, List.mem_singleton, Option.some.injEq]
      constructor
      · rintro rfl
        exact ⟨x, r.head, rfl, rfl, .inr ⟨by first | trivial | rfl, rfl⟩⟩
      · rintro ⟨x', h, rfl, rfl, (⟨e, -⟩ | ⟨-, rfl⟩)⟩
        · cases e
        · rfl
theorem ord_of_sorted {n : Int} {l : List Int} (h : l.Pairwise (· < ·)) (hr : ∀ x ∈ l, 1 ≤ x ∧ x ≤ n) : orderedB l n = true := by
  unfold orderedB
  refine allR_true fun j hj => ?_
  unfold okAt
  have h1 := hr _ (ix_mem hj)
  rw [Bool.and_eq_true]
  refine ⟨by unfold litB; exact decide_eq_true (by omega), ?_⟩
  rw [Bool.or_eq_true]
  rcases Nat.eq_zero_or_pos j with h0 | h0
  · exact .inl (by simp [h0])
  · refine .inr (decide_eq_true ?_)
    have h2 := List.pairwise_iff_getElem.1 h (j - 1) j (by omega) hj (by omega)
    have e : ∀ k, (hk : k < l.length) → ix l k = l[k] := fun k hk => by simp [ix, List.getD_eq_getElem?_getD, List.getElem?_eq_getElem hk]
    have h3 := hr _ (ix_mem (show j - 1 < l.length by omega))
    rw [← e j hj, ← e (j - 1) (by omega)] at h2
    unfold ordI orI cmpI
    grind
theorem posP_sorted {r : GR} {n : Int} (h : orderedB r.body n = true) : ∀ k, k ≤ r.body.length → (fstL (posP r k)).Pairwise (· < ·)
  | 0, _ => by simp [posP, fstL]
  | k + 1, hk => by
    have ih := posP_sorted h k (by omega)
    unfold posP
    split
    · rename_i h0
      rw [fstL_snoc]
      refine List.pairwise_append.2 ⟨ih, by simp, fun x hx y hy => ?_⟩
      obtain rfl := List.mem_singleton.1 hy
      obtain ⟨z, hz, rfl⟩ := List.mem_map.1 hx
      obtain ⟨j, hj, h1, rfl⟩ := (posP_mem _).1 hz
      have h2 := ordered_lt h k (by omega) j hj
      unfold litKey at h2
      rw [if_pos (show 0 ≤ ix r.body j by omega), if_pos (show 0 ≤ ix r.body k by omega)] at h2
      show ix r.body j < ix r.body k
      omega
    · exact ih
theorem sumTo_congr {l l' : List Int} : ∀ k, (∀ j, j < k → ix l j = ix l' j) → sumTo l k = sumTo l' k
  | 0, _ => rfl
  | k + 1, h => by unfold sumTo; rw [sumTo_congr k (fun j hj => h j (by omega)), h k (by omega)]
theorem posP_weights {r : GR} (hw : ∀ k, k < r.body.length → 1 ≤ ix r.w k ∧ ix r.w k ≤ 1048576 - sumTo r.w k) : ∀ k, k ≤ r.body.length →
    sumTo (sndL (posP r k)) (posP r k).length ≤ sumTo r.w k ∧ ∀ j, j < (posP r k).length → 1 ≤ ix (sndL (posP r k)) j ∧ ix (sndL (posP r k)) j ≤ 1048576 - sumTo (sndL (posP r k)) j
  | 0, _ => by simp [posP, sumTo]
  | k + 1, hk => by
    obtain ⟨h1, h2⟩ := posP_weights hw k (by omega)
    have h3 := hw k (by omega)
    have e5 : sumTo r.w (k + 1) = sumTo r.w k + ix r.w k := rfl
    unfold posP
    split
    · have e1 : ∀ j, j < (posP r k).length → ix (sndL (posP r k ++ [(ix r.body k, ix r.w k)])) j = ix (sndL (posP r k)) j := fun j hj => by
        rw [sndL_snoc, ix_snoc_lt _ (by rw [sndL_len]; exact hj)]
      have e2 : ix (sndL (posP r k ++ [(ix r.body k, ix r.w k)])) (posP r k).length = ix r.w k := by
        rw [sndL_snoc, ← sndL_len (posP r k), ix_snoc]
      have e3 : ∀ j, j ≤ (posP r k).length → sumTo (sndL (posP r k ++ [(ix r.body k, ix r.w k)])) j = sumTo (sndL (posP r k)) j := fun j hj => sumTo_congr j fun i hi => e1 i (by omega)
      rw [List.length_append, List.length_singleton]
      refine ⟨?_, fun j hj => ?_⟩
      · show sumTo _ (posP r k).length + ix _ (posP r k).length ≤ _
        rw [e3 _ (Nat.le_refl _), e2]
        omega
      · by_cases e : j = (posP r k).length
        · subst e
          rw [e2, e3 _ (Nat.le_refl _)]
          omega
        · rw [e1 j (by omega), e3 j (by omega)]
          exact h2 j (by omega)
    · refine ⟨?_, h2⟩
      omega
theorem ruleE_zero {r : GR} {n : Int} (hn : 0 ≤ n ∧ n ≤ 4000) (h1 : increasingB r.head n = true) (h2 : r.choice = false) (h3 : orderedB r.body n = true) (h4 : r.sum = false → r.w.length = 0 ∧ r.bound = 0)
    (h5 : r.sum = true → weightsB r.w r.body.length = true ∧ 0 ≤ r.bound ∧ r.bound ≤ 1048576) : ruleE r n = 0 := by
  unfold ruleE
  rw [if_neg (by omega), if_neg (by rw [h1, h2]; simp), if_neg (by rw [h3]; simp), if_neg ?_]
  rintro (⟨hs, h⟩ | ⟨hs, h⟩)
  · have := h4 hs; omega
  · have h6 := h5 hs
    rw [h6.1] at h
    rcases h with h | h | h
    · cases h
    · omega
    · omega
theorem inc_one {a n : Int} (h : 1 ≤ a ∧ a ≤ n) : increasingB [a] n = true := by
  unfold increasingB
  rw [ord_of_sorted (by simp) (fun x hx => by obtain rfl := List.mem_singleton.1 hx; exact h), Bool.true_and]
  refine allR_true fun j hj => decide_eq_true ?_
  obtain rfl : j = 0 := by simpa using hj
  show 0 < a
  omega
theorem red_def {m : List Int} {r x : GR} {n : Int} (hr : BodyW r n) (hb : r.sum = false → r.bound = 0) (h : redB m r = some x) {hd : List Int} (h1 : increasingB hd n = true) (h2 : hd.length ≤ 1) : defAt n (withHead x hd) = true := by
  have hE : ruleE (withHead x hd) n = 0 ∧ ∀ j, j < (withHead x hd).body.length → 0 < ix (withHead x hd).body j := by
    unfold redB at h
    split at h
    · cases h
    · split at h
      · cases h
        exact ⟨ruleE_zero hr.v.rng h1 rfl rfl (fun _ => ⟨rfl, rfl⟩) (fun e => by cases e), fun j hj => by cases hj⟩
      · rename_i h3 h4
        cases h
        have hpos : ∀ y ∈ fstL (posP r r.body.length), 1 ≤ y ∧ y ≤ n := fun y hy => by
          obtain ⟨z, hz, rfl⟩ := List.mem_map.1 hy
          obtain ⟨j, hj, h5, rfl⟩ := (posP_mem _).1 hz
          have := hr.lit j hj
          show 1 ≤ ix r.body j ∧ ix r.body j ≤ n
          omega
        refine ⟨ruleE_zero hr.v.rng h1 rfl (ord_of_sorted (posP_sorted hr.v.ord _ (Nat.le_refl _)) hpos) (fun hs => ?_) (fun hs => ?_), fun j hj => ?_⟩
        · have hs : r.sum = false := hs
          refine ⟨?_, ?_⟩
          · show (if r.sum then sndL (posP r r.body.length) else []).length = 0
            rw [hs]; rfl
          · show r.bound - (if r.sum then negW m r r.body.length else 0) = 0
            rw [hs, hb hs]; rfl
        · have hs : r.sum = true := hs
          have hw := hr.wts hs
          have hn := negW_nonneg (m := m) (fun k hk => by have := (hw.2 k hk).1; omega) _ (Nat.le_refl _)
          have h5 : ¬ r.bound - negW m r r.body.length ≤ 0 := fun h => h4 ⟨hs, h⟩
          have hbd := hr.bound
          refine ⟨?_, ?_, ?_⟩
          · show weightsB (if r.sum then sndL (posP r r.body.length) else []) (fstL (posP r r.body.length)).length = true
            rw [hs, if_pos rfl]
            unfold weightsB
            rw [fstL_len, sndL_len, decide_eq_true rfl, Bool.and_true]
            exact allR_true fun j hj => decide_eq_true ((posP_weights hw.2 _ (Nat.le_refl _)).2 j hj)
          · show 0 ≤ r.bound - (if r.sum then negW m r r.body.length else 0)
            rw [hs, if_pos rfl]; omega
          · show r.bound - (if r.sum then negW m r r.body.length else 0) ≤ 1048576
            rw [hs, if_pos rfl]; omega
        · have := hpos _ (ix_mem hj)
          show 0 < ix (fstL (posP r r.body.length)) j
          omega
  unfold defAt
  rw [hE.1, decide_eq_true rfl, Bool.true_and]
  have hc : (withHead x hd).choice = false := by
    unfold redB at h
    split at h
    · cases h
    · split at h <;> (cases h; rfl)
  rw [hc, decide_eq_true (show (withHead x hd).head.length ≤ 1 from h2), anyR_false fun j hj => decide_eq_false (by have := hE.2 j hj; omega)]
  rfl
theorem bodyW_valid {p : GP} (h : validE p = 0) : ∀ i, i < p.rules.length → BodyW (ixR p.rules i) p.n := fun _ hi =>
  (bodyV_valid h hi).full (rule_bound (ruleE_at h hi)).2
theorem redR_len (m : List Int) (r : GR) : (redR m r).length ≤ r.head.length + 1 := by
  unfold redR
  split
  · simp
  · split
    · rw [List.length_map]
      have := List.length_filter_le (fun a => decide (a ∈ m)) r.head
      omega
    · simp
theorem redTo_len {p : GP} {m : List Int} {B : Nat} (h : ∀ i, i < p.rules.length → (ixR p.rules i).head.length ≤ B) : ∀ k, k ≤ p.rules.length → (redTo p m k).length ≤ k * (B + 1)
  | 0, _ => by simp [redTo]
  | k + 1, hk => by
    have ih := redTo_len (m := m) h k (by omega)
    have h1 := redR_len m (ixR p.rules k)
    have h2 := h k (by omega)
    unfold redTo
    rw [List.length_append, Nat.add_mul]
    omega
end Go.Proofs.YtfajkmmmmmfhiaaGreatDoor
namespace Go.Proofs.YtfajkmmmmmfhiaaGreatDoor
def plitB (l : Int) : Bool := decide (l ≠ 0 ∧ -65536 ≤ l ∧ l ≤ 65536)
def negTo (L K : List Int) : Nat → Int
  | 0 => 0
  | i + 1 => negTo L K i + (if ix L i < 0 then ix K i else 0)
def sumI (f : Int → Int) : List Int → Int
  | [] => 0
  | x :: l => f x + sumI f l
def lowI (x : Int) : Int := if x < 0 then x else 0
def absI (x : Int) : Int := if x < 0 then -x else x
def minI (x y : Int) : Int := if x ≤ y then x else y
def litOf (by' : Int → Int) (v : Int) : Int := if by' v < 0 then -v else v
def pokAt (L K : List Int) (i : Nat) : Bool := plitB (ix L i) && decide (-16777216 ≤ ix K i ∧ ix K i ≤ 16777216)
def normC (by' : Int → Int) (V : List Int) (bd : Int) : PBC × Int :=
  if bd ≤ 0 then (⟨[], [], 0⟩, 0)
  else if sumI (fun v => minI (absI (by' v)) bd) V < bd then (⟨[], [], 1⟩, 0)
  else if 16777216 < bd then (⟨[], [], 0⟩, 3)
  else (⟨V.map (litOf by'), V.map (fun v => minI (absI (by' v)) bd), bd⟩, 0)
def normP (L K : List Int) (B : Int) : PBC × Int :=
  if L.length ≠ K.length ∨ 65536 < L.length ∨ B < -1099511627776 ∨ 1099511627776 < B then (⟨[], [], 0⟩, 2)
  else if allR L.length (pokAt L K) = false then (⟨[], [], 0⟩, 2)
  else normC (fun v => byTo L K v L.length) ((keysOf L).filter fun v => byTo L K v L.length != 0) (B - negTo L K L.length - sumI (fun v => lowI (byTo L K v L.length)) (keysOf L))
end Go.Proofs.YtfajkmmmmmfhiaaGreatDoor
namespace Go.Proofs.YtfajkmmmmmfhiaaGreatDoor
def setL (L : List Int) : List Int := L.foldr insK []
def clauseP (L : List Int) : PBC × Int := normP (setL L) (ones (setL L).length) 1
end Go.Proofs.YtfajkmmmmmfhiaaGreatDoor
namespace Go.Proofs.YtfajkmmmmmfhiaaGreatDoor
def negL (l : List Int) : List Int := l.map fun x => -x
def restI (r : GR) : Int := 1 - r.bound + sumTo r.w r.w.length
def compH (r : GR) (b : Int) : List PBC :=
  if r.sum then [(normP (r.body ++ [-b]) (r.w ++ [r.bound]) r.bound).1, (normP (negL r.body ++ [b]) (r.w ++ [max (restI r) 0]) (restI r)).1]
  else (r.body.map fun l => (clauseP [-b, l]).1) ++ [(clauseP (negL r.body ++ [b])).1]
def compR (r : GR) (b : Int) : List PBC := compH r b ++ (if r.choice then [] else [(clauseP (r.head ++ [-b])).1])
def supAt' (p : GP) (a : Int) : Nat → List Int
  | 0 => []
  | k + 1 => supAt' p a k ++ (if a ∈ (ixR p.rules k).head then [p.n + 1 + k] else [])
def atomC (p : GP) (a : Int) : PBC := (clauseP (supAt' p a p.rules.length ++ [-a])).1
def compTo (p : GP) : Nat → List PBC
  | 0 => []
  | k + 1 => compTo p k ++ compR (ixR p.rules k) (p.n + 1 + k)
def atomTo (p : GP) : Nat → List PBC
  | 0 => []
  | k + 1 => atomTo p k ++ [atomC p ((k : Int) + 1)]
def compL (p : GP) : List PBC := compTo p p.rules.length ++ atomTo p p.n.toNat
end Go.Proofs.YtfajkmmmmmfhiaaGreatDoor
namespace Go.Proofs.YtfajkmmmmmfhiaaGreatDoor
open Go.RowKit
def twoP : GP := ⟨2, [⟨#[97]⟩, ⟨#[98]⟩], [], [⟨false, [1], false, 0, [-2], []⟩, ⟨false, [2], false, 0, [-1], []⟩], []⟩
def ct1 : PBC := ⟨[1, 2, -4], [1, 2, 2], 2⟩
def ct2 : PBC := ⟨[-1, -2, 4], [1, 2, 2], 2⟩
def ct3 : PBC := ⟨[3, -4], [1, 1], 1⟩
def Far (u v : Value) : Prop := ∀ g, u.ownBlock = some g → v.ownBlock ≠ some g
section
variable {w : World} {ob : Nat} {v1 v2 bd : Value} {l1 l2 : List Int} {x y : Int} {vals : Nat → Value} {L : Nat → Bool} {wx : World}
theorem below_row {n : Nat} {w w' : World} {u : Value} (h : w.grownBy w' u.ownBlock) (hn : n ≤ w.heap.size) (hu : ∀ g, u.ownBlock = some g → n ≤ g) : Below n w w' :=
  ⟨h.os, h.tape, h.output, h.size, fun i hi => h.block i (by omega) (fun e => by have := hu i e.symm; omega)⟩
end
theorem derT_mono {p : GP} {T T' m : List Int} (hv : validE p = 0) (h : ∀ x ∈ T, x ∈ T') {i : Nat} (hi : i < p.rules.length) {a : Int} (hd : derT T m (ixR p.rules i) a = true) : derT T' m (ixR p.rules i) a = true := by
  unfold derT at hd ⊢
  simp only [Bool.and_eq_true] at hd ⊢
  exact ⟨hd.1, hd.2.1, avT_mono h (bodyW_valid hv i hi) hd.2.2⟩
theorem few17_head {p : GP} (h : few17B p = true) : p.rules.length ≤ 40 ∧ ∀ i, i < p.rules.length → (ixR p.rules i).head.length ≤ 40 := by
  unfold few17B at h
  simp only [Bool.and_eq_true, decide_eq_true_eq] at h
  refine ⟨by omega, fun i hi => ?_⟩
  have := allR_get h.2.2.1 i hi
  unfold few17R at this
  simp only [decide_eq_true_eq] at this
  omega
end Go.Proofs.YtfajkmmmmmfhiaaGreatDoor
namespace Go.Proofs.YtfajkmmmmmfhiaaGreatDoor
def satR (R : List GR) (s : List Int) : Bool := allR R.length (fun q => satT (ixR R q) s)
def sbTo (m : List Int) (k : Nat) : Nat → List Int
  | 0 => []
  | j + 1 => if bitAt k j then sbTo m k j ++ [ix m j] else sbTo m k j
def sbL (m : List Int) (k : Nat) : List Int := sbTo m k m.length
def MinIs (R : List GR) (m : List Int) (b : Bool) : Prop :=
  (∃ k : Nat, k < 2 ^ m.length ∧ (∀ j : Nat, j < k → satR R (sbL m j) = false) ∧ satR R (sbL m k) = true ∧ b = decide ((sbL m k).length = m.length)) ∨ ((∀ j : Nat, j < 2 ^ m.length → satR R (sbL m j) = false) ∧ b = false)
end Go.Proofs.YtfajkmmmmmfhiaaGreatDoor
namespace Go.Proofs.YtfajkmmmmmfhiaaGreatDoor
open Go.RowKit
structure RA (w : World) (fv : Value) (rb : Nat) (v1 v2 : Value) (la lb : List Int) (b bd rest x y : Int) (vals : Nat → Value) (L : Nat → Bool) (wx : World) : Prop where
  below : Below w.heap.size w wx
  t0 : L 0 = true → vals 0 = fv
  t1 : L 1 = true → vals 1 = .pointer (some ⟨rb, 4, none⟩)
  t2 : L 2 = true → vals 2 = v1
  t4 : L 4 = true → vals 4 = .int .i64 b
  t5 : L 5 = true → vals 5 = .int .i64 x
  t8 : L 8 = true → vals 8 = .pointer (some ⟨rb, 5, none⟩)
  t9 : L 9 = true → vals 9 = v2
  t11 : L 11 = true → vals 11 = .pointer (some ⟨rb, 3, none⟩)
  t12 : L 12 = true → vals 12 = .int .i64 bd
  t15 : L 15 = true → vals 15 = .pointer (some ⟨rb, 3, none⟩)
  t16 : L 16 = true → vals 16 = .int .i64 bd
  ra : L 3 = true → QRow w.heap.size wx (if L 7 then vals 7 else vals 3) (if L 7 then la ++ [x] else la)
  rb : L 10 = true → QRow w.heap.size wx (if L 14 then vals 14 else vals 10) (if L 14 then lb ++ [y] else lb)
  far : L 3 = true → L 10 = true → Far (if L 7 then vals 7 else vals 3) (if L 14 then vals 14 else vals 10)
  sa : L 6 = true → L 7 = false → ∃ g, vals 6 = .slice (some ⟨g, 0, none⟩) 1 1 ∧ Blk wx g [.int .i64 x] 3
  sb : L 13 = true → L 14 = false → ∃ g, vals 13 = .slice (some ⟨g, 0, none⟩) 1 1 ∧ Blk wx g [.int .i64 y] 3 ∧ (L 3 = true → (if L 7 then vals 7 else vals 3).ownBlock ≠ some g)
section
variable {w : World} {fv : Value} {rb : Nat} {v1 v2 : Value} {la lb : List Int} {b bd rest x y : Int} {vals : Nat → Value} {L : Nat → Bool} {wx w' : World} {v : Value}
theorem RA.start : RA w fv rb v1 v2 la lb b bd rest x y (fun _ => undef) (fun _ => false) w.drew := by
  constructor <;> first | exact (Below.refl _ _).drew | (intro h; cases h)
def RA.val (fv : Value) (rb : Nat) (v1 v2 : Value) (b bd _rest x _y : Int) : Nat → Value
  | 0 => fv
  | 1 => .pointer (some ⟨rb, 4, none⟩)
  | 2 => v1
  | 4 => .int .i64 b
  | 5 => .int .i64 x
  | 8 => .pointer (some ⟨rb, 5, none⟩)
  | 9 => v2
  | 11 => .pointer (some ⟨rb, 3, none⟩)
  | 12 => .int .i64 bd
  | 15 => .pointer (some ⟨rb, 3, none⟩)
  | 16 => .int .i64 bd
  | _ => undef
theorem RA.quiet (h : RA w fv rb v1 v2 la lb b bd rest x y vals L wx) (i : Nat) (hi : i = 0 ∨ i = 1 ∨ i = 2 ∨ i = 4 ∨ i = 5 ∨ i = 8 ∨ i = 9 ∨ i = 11 ∨ i = 12 ∨ i = 15 ∨ i = 16) : RA w fv rb v1 v2 la lb b bd rest x y (updN vals i (RA.val fv rb v1 v2 b bd rest x y i)) (updN L i true) wx := by
  obtain ⟨h0, t0, t1, t2, t4, t5, t8, t9, t11, t12, t15, t16, ra, rbb, far, sa, sb⟩ := h
  rcases hi with rfl | rfl | rfl | rfl | rfl | rfl | rfl | rfl | rfl | rfl | rfl <;> constructor <;> first | (simp [updN, RA.val]; done) | simpa [updN] using h0 | simpa [updN] using t0 | simpa [updN] using t1 | simpa [updN] using t2 | simpa [updN] using t4 | simpa [updN] using t5 | simpa [updN] using t8 | simpa [updN] using t9 | simpa [updN] using t11 | simpa [updN] using t12 | simpa [updN] using t15 | simpa [updN] using t16 | simpa [updN] using ra | simpa [updN] using rbb | simpa [updN] using far | simpa [updN] using sa | simpa [updN] using sb
def RA.J (w : World) (fv : Value) (rb : Nat) (v1 v2 : Value) (la lb : List Int) (b bd rest x y : Int) (Fin : World → Prop) (vals : Nat → Value) (L : Nat → Bool) (wx : World) : Prop := if L 17 then Fin wx else RA w fv rb v1 v2 la lb b bd rest x y vals L wx
variable {Fin : World → Prop} {i : Nat}
theorem RA.J.out (hz : L 17 = false) (h : RA.J w fv rb v1 v2 la lb b bd rest x y Fin vals L wx) : RA w fv rb v1 v2 la lb b bd rest x y vals L wx := by unfold RA.J at h; rw [hz] at h; exact h
theorem RA.J.on (hz : L 17 = false) (hi : i ≠ 17) (h : RA w fv rb v1 v2 la lb b bd rest x y (updN vals i v) (updN L i true) wx) : RA.J w fv rb v1 v2 la lb b bd rest x y Fin (updN vals i v) (updN L i true) wx := by
  have e : updN L i true 17 = false := by simp only [updN]; rw [if_neg (Ne.symm hi)]; exact hz
  unfold RA.J; rw [e]; exact h
theorem RA.J.end (h : Fin wx) : RA.J w fv rb v1 v2 la lb b bd rest x y Fin (updN vals 17 v) (updN L 17 true) wx := by
  have e : updN L 17 true 17 = true := by simp [updN]
  unfold RA.J; rw [e]; exact h
theorem RA.J.fin (hz : L 17 = true) (h : RA.J w fv rb v1 v2 la lb b bd rest x y Fin vals L wx) : Fin wx := by unfold RA.J at h; rw [hz] at h; exact h
end
structure RB (w : World) (fv : Value) (rb : Nat) (v1 v2 : Value) (la lb : List Int) (b bd rest x y : Int) (vals : Nat → Value) (L : Nat → Bool) (wx : World) : Prop where
  below : Below w.heap.size w wx
  t0 : L 0 = true → vals 0 = fv
  t1 : L 1 = true → vals 1 = .pointer (some ⟨rb, 4, none⟩)
  t2 : L 2 = true → vals 2 = v1
  t4 : L 4 = true → vals 4 = .int .i64 b
  t7 : L 7 = true → vals 7 = .pointer (some ⟨rb, 5, none⟩)
  t8 : L 8 = true → vals 8 = v2
  t10 : L 10 = true → vals 10 = .int .i64 rest
  t11 : L 11 = true → vals 11 = .int .i64 y
  t14 : L 14 = true → vals 14 = .int .i64 rest
  ra : L 3 = true → QRow w.heap.size wx (if L 6 then vals 6 else vals 3) (if L 6 then la ++ [x] else la)
  rb : L 9 = true → QRow w.heap.size wx (if L 13 then vals 13 else vals 9) (if L 13 then lb ++ [y] else lb)
  far : L 3 = true → L 9 = true → Far (if L 6 then vals 6 else vals 3) (if L 13 then vals 13 else vals 9)
  sa : L 5 = true → L 6 = false → ∃ g, vals 5 = .slice (some ⟨g, 0, none⟩) 1 1 ∧ Blk wx g [.int .i64 x] 3
  sb : L 12 = true → L 13 = false → ∃ g, vals 12 = .slice (some ⟨g, 0, none⟩) 1 1 ∧ Blk wx g [.int .i64 y] 3 ∧ (L 3 = true → (if L 6 then vals 6 else vals 3).ownBlock ≠ some g)
section
variable {w : World} {fv : Value} {rb : Nat} {v1 v2 : Value} {la lb : List Int} {b bd rest x y : Int} {vals : Nat → Value} {L : Nat → Bool} {wx w' : World} {v : Value}
theorem RB.start : RB w fv rb v1 v2 la lb b bd rest x y (fun _ => undef) (fun _ => false) w.drew := by
  constructor <;> first | exact (Below.refl _ _).drew | (intro h; cases h)
def RB.val (fv : Value) (rb : Nat) (v1 v2 : Value) (b _bd rest _x y : Int) : Nat → Value
  | 0 => fv
  | 1 => .pointer (some ⟨rb, 4, none⟩)
  | 2 => v1
  | 4 => .int .i64 b
  | 7 => .pointer (some ⟨rb, 5, none⟩)
  | 8 => v2
  | 10 => .int .i64 rest
  | 11 => .int .i64 y
  | 14 => .int .i64 rest
  | _ => undef
theorem RB.quiet (h : RB w fv rb v1 v2 la lb b bd rest x y vals L wx) (i : Nat) (hi : i = 0 ∨ i = 1 ∨ i = 2 ∨ i = 4 ∨ i = 7 ∨ i = 8 ∨ i = 10 ∨ i = 11 ∨ i = 14) : RB w fv rb v1 v2 la lb b bd rest x y (updN vals i (RB.val fv rb v1 v2 b bd rest x y i)) (updN L i true) wx := by
  obtain ⟨h0, t0, t1, t2, t4, t7, t8, t10, t11, t14, ra, rbb, far, sa, sb⟩ := h
  rcases hi with rfl | rfl | rfl | rfl | rfl | rfl | rfl | rfl | rfl <;> constructor <;> first | (simp [updN, RB.val]; done) | simpa [updN] using h0 | simpa [updN] using t0 | simpa [updN] using t1 | simpa [updN] using t2 | simpa [updN] using t4 | simpa [updN] using t7 | simpa [updN] using t8 | simpa [updN] using t10 | simpa [updN] using t11 | simpa [updN] using t14 | simpa [updN] using ra | simpa [updN] using rbb | simpa [updN] using far | simpa [updN] using sa | simpa [updN] using sb
def RB.J (w : World) (fv : Value) (rb : Nat) (v1 v2 : Value) (la lb : List Int) (b bd rest x y : Int) (Fin : World → Prop) (vals : Nat → Value) (L : Nat → Bool) (wx : World) : Prop := if L 15 then Fin wx else RB w fv rb v1 v2 la lb b bd rest x y vals L wx
variable {Fin : World → Prop} {i : Nat}
theorem RB.J.out (hz : L 15 = false) (h : RB.J w fv rb v1 v2 la lb b bd rest x y Fin vals L wx) : RB w fv rb v1 v2 la lb b bd rest x y vals L wx := by unfold RB.J at h; rw [hz] at h; exact h
theorem RB.J.on (hz : L 15 = false) (hi : i ≠ 15) (h : RB w fv rb v1 v2 la lb b bd rest x y (updN vals i v) (updN L i true) wx) : RB.J w fv rb v1 v2 la lb b bd rest x y Fin (updN vals i v) (updN L i true) wx := by
  have e : updN L i true 15 = false := by simp only [updN]; rw [if_neg (Ne.symm hi)]; exact hz
  unfold RB.J; rw [e]; exact h
theorem RB.J.end (h : Fin wx) : RB.J w fv rb v1 v2 la lb b bd rest x y Fin (updN vals 15 v) (updN L 15 true) wx := by
  have e : updN L 15 true 15 = true := by simp [updN]
  unfold RB.J; rw [e]; exact h
theorem RB.J.fin (hz : L 15 = true) (h : RB.J w fv rb v1 v2 la lb b bd rest x y Fin vals L wx) : Fin wx := by unfold RB.J at h; rw [hz] at h; exact h
end
section
variable {P : Program} {l : List Oper} {D : Nat → Nat → Bool} {Q : Exit → Act → World → Prop} {a0 : Act}
def StepK (P : Program) (l : List Oper) (a0 : Act) (W : (Nat → Value) → (Nat → Bool) → World → Prop) (i : Nat) (vals : Nat → Value) (L : Nat → Bool) (w : World) : Prop :=
  StepJ P l a0 W i vals L w ∧ (tame (opAt l i) = true ∨ Enters P (opAt l i) (Afr l a0 vals i) w)
theorem StepK.of {W : (Nat → Value) → (Nat → Bool) → World → Prop} {i : Nat} {vals : Nat → Value} {L : Nat → Bool} {w : World} (hw : Region.wanted (opAt l i) (yielded l.toArray (Afr l a0 vals i).tmps) = true) (ht : tame (opAt l i) = true)
    (h : ∀ K : Act → World → Prop, (∀ v w', W (updN vals i v) (updN L i true) w' → K ((Afr l a0 vals i).put (opAt l i).dst v) w') → (opAt l i).wp P (Afr l a0 vals i) w K (fun _ _ _ => False)) : StepK P l a0 W i vals L w := ⟨.of hw h, .inl ht⟩
theorem StepK.call {W : (Nat → Value) → (Nat → Bool) → World → Prop} {i : Nat} {vals : Nat → Value} {L : Nat → Bool} {w : World} (hw : Region.wanted (opAt l i) (yielded l.toArray (Afr l a0 vals i).tmps) = true) (ht : Enters P (opAt l i) (Afr l a0 vals i) w)
    (h : ∀ K : Act → World → Prop, (∀ v w', W (updN vals i v) (updN L i true) w' → K ((Afr l a0 vals i).put (opAt l i).dst v) w') → (opAt l i).wp P (Afr l a0 vals i) w K (fun _ _ _ => False)) : StepK P l a0 W i vals L w := ⟨.of hw h, .inr ht⟩
end
structure BoxP (b : Nat) (n : Int) (vn vr : Value) (p : GP) (W : World) : Prop where
  prog : ProgIs W (.agg #[.int .i64 n, vn, .slice none 0 0, vr, .slice none 0 0]) p
  box : Blk W b [.int .i64 n, vn, .slice none 0 0, vr, .slice none 0 0] 27
theorem BoxP.on {b : Nat} {n : Int} {vn vr : Value} {p : GP} {W W' : World} (h : BoxP b n vn vr p W) (hb : Below W.heap.size W W') : BoxP b n vn vr p W' := ⟨h.prog.below hb, h.box.below hb⟩
structure Sum3 (a : Option Addr) (b o : Nat) (v0 u0 v1 u1 v2 u2 : Value) (W : World) : Prop where
  lt : b < W.heap.size
  at0 : PBCells W b o ct1 v0 u0
  at1 : PBCells W b (o + 3) ct2 v1 u1
  at2 : PBCells W b (o + 6) ct3 v2 u2
  is0 : PBIs W (.agg #[v0, u0, .int .i64 2]) ct1
  is1 : PBIs W (.agg #[v1, u1, .int .i64 2]) ct2
  is2 : PBIs W (.agg #[v2, u2, .int .i64 1]) ct3
theorem Sum3.on {a : Option Addr} {b o : Nat} {v0 u0 v1 u1 v2 u2 : Value} {W W' : World} (h : Sum3 a b o v0 u0 v1 u1 v2 u2 W) (hb : Below W.heap.size W W') : Sum3 a b o v0 u0 v1 u1 v2 u2 W' :=
  ⟨Nat.lt_of_lt_of_le h.lt hb.size, h.at0.below hb h.lt, h.at1.below hb h.lt, h.at2.below hb h.lt, h.is0.below hb, h.is1.below hb, h.is2.below hb⟩
structure A4 (w : World) (bp : Nat) (an : Option Addr) (nn cn : Nat) (ar : Option Addr) (nr cr : Nat) (ao : Option Addr) (co bs os : Nat) (v0 u0 v1 u1 v2 u2 : Value) (W : World) : Prop where
  p : BoxP bp 2 (.slice an nn cn) (.slice ar nr cr) twoP W
  l : PBsIs W (.slice ao 8 co) (compL twoP)
  s : Sum3 (some ⟨bs, os, none⟩) bs os v0 u0 v1 u1 v2 u2 W
  b : Below w.heap.size w W
theorem A4.on {w : World} {bp : Nat} {an : Option Addr} {nn cn : Nat} {ar : Option Addr} {nr cr : Nat} {ao : Option Addr} {co bs os : Nat} {v0 u0 v1 u1 v2 u2 : Value} {W W' : World} (h : A4 w bp an nn cn ar nr cr ao co bs os v0 u0 v1 u1 v2 u2 W) (hb : Below W.heap.size W W') : A4 w bp an nn cn ar nr cr ao co bs os v0 u0 v1 u1 v2 u2 W' :=
  ⟨h.p.on hb, h.l.below hb, h.s.on hb, bon h.b hb⟩
theorem A4.alloc {w : World} {bp : Nat} {an : Option Addr} {nn cn : Nat} {ar : Option Addr} {nr cr : Nat} {ao : Option Addr} {co bs os : Nat} {v0 u0 v1 u1 v2 u2 : Value} {W : World} (h : A4 w bp an nn cn ar nr cr ao co bs os v0 u0 v1 u1 v2 u2 W) (o : Obj) : A4 w bp an nn cn ar nr cr ao co bs os v0 u0 v1 u1 v2 u2 (W.alloc o) :=
  h.on (bal (Below.refl _ _) _)
structure LwSt (w : World) (p : GP) (vn vs vr vm : Value) (W : World) : Prop where
  box : Blk W w.heap.size [.int .i64 p.n, vn, vs, vr, vm] 27
  prog : ProgIs W (.agg #[.int .i64 p.n, vn, vs, vr, vm]) p
  below : Below w.heap.size w W
theorem LwSt.on {w W W' : World} {p : GP} {vn vs vr vm : Value} (h : LwSt w p vn vs vr vm W) (hb : Below W.heap.size W W') : LwSt w p vn vs vr vm W' := ⟨h.box.below hb, h.prog.below hb, bon h.below hb⟩
theorem LwSt.alloc {w W : World} {p : GP} {vn vs vr vm : Value} (h : LwSt w p vn vs vr vm W) (o : Obj) : LwSt w p vn vs vr vm (W.alloc o) := h.on (bal (Below.refl _ _) _)
theorem LwSt.start {w : World} {p : GP} {vn vs vr vm : Value} (h : ProgIs w (.agg #[.int .i64 p.n, vn, vs, vr, vm]) p) : LwSt w p vn vs vr vm (w.alloc (.cells #[.int .i64 p.n, vn, vs, vr, vm] 27)) := by
  have hal : Below w.heap.size w (w.alloc (.cells #[.int .i64 p.n, vn, vs, vr, vm] 27)) := bal (Below.refl _ _) _
  exact ⟨Blk.new w _ _, h.below hal, hal⟩
def SeqStopsR {α : Type} (F : Fence) (n : Nat) (P : Program) (g : Nat) (lb : Array Value) (encs : α → Array Value) (Kp : World → World → Prop) (R : α → World → Prop) (S Sp : List α → Prop) (N : Nat) (w : World) : Prop :=
  ∀ (l : Nat) (J Jx : List α → World → Prop) (W : World), Below w.heap.size w W → AbidesFrom W.heap.size J → AbidesFrom W.heap.size Jx →
    (∀ pre x W1, J pre W1 → R x W1 → pre.length < N → YieldAt F (n - 1) P l (encs x) W1 fun e W' =>
      (e = .returned (.bool true) ∧ J (pre ++ [x]) W' ∧ Kp W1 W') ∨ (e = .returned (.bool false) ∧ Jx (pre ++ [x]) W')) →
    J [] W →
    CallsIn F n P g (#[.func (.yield l) #[] #[]] ++ lb) W fun e W' => (∃ v, e = .returned v) ∧ ((∃ xs, S xs ∧ J xs W') ∨ (∃ pre, Sp pre ∧ Jx pre W'))
variable {F : Fence} {n : Nat} {P : Program}
theorem wpIn_rangeFunc_ownR {α : Type} {g : Operand} {ps : Array Tmp} {assign body : Code} {Q : Exit → Act → World → Prop} {a : Act} {w : World}
    (hro : F.round = none) (h1 : 1 ≤ n) {gf : Nat} {lb : Array Value} (hg : a.eval g = .func (.func gf) #[] lb) (hFg : F.fn gf) (eg : ∀ args w, (callFunc gf args).run P w = .ok (.enter gf args) w)
    {encs : α → Array Value} {Kp : World → World → Prop} {R : α → World → Prop} {S Sp : List α → Prop} {N : Nat} {w0 : World} (hseq : SeqStopsR F (n - 1) P gf lb encs Kp R S Sp N w0)
    (hKt : ∀ {A B C : World}, Kp A B → Kp B C → Kp A C) (hKb : ∀ (W : World) (l : Nat) (o o' : Obj), w.heap.size ≤ l → W.heap[l]? = some o → o.isCells = false → o.isWalk = false → Kp W (W.putObj l o')) (hb0 : Below w0.heap.size w0 w) (hps : ∀ x, (encs x).size = ps.size)
    (I : List α → World → Prop) (Ix : Code → List α → World → Prop) (hI : OwnFrom w.heap.size I) (hIx : ∀ c, OwnFrom w.heap.size (Ix c)) (h0 : I [] w) (Ax : α → Act → World → Prop) (hAx : ∀ x a', OwnFrom w.heap.size (fun (_ : Unit) W => Ax x a' W))
    (hassign : ∀ (l : Nat) (pre : List α) (x : α) (W : World) (K : Act → World → Prop), I pre W → R x W → (∀ a' W', KeepsFrom w.heap.size W W' → Kp W W' → I pre W' → Ax x a' W' → K a' W') →
      assign.wpIn (F.inRound l) (n - 1 - 1) P (Exit.then K (fun _ _ _ => False)) { tmps := (ps.zip (encs x)).foldl (fun t (p, v) => t.setIfInBounds p v) a.tmps, defers := [] } W)
    (hbody : ∀ (l : Nat) (pre : List α) (x : α) (a' : Act) (W : World), w.heap.size ≤ l → (∃ r, W.heap[l]? = some (.loop r)) → I pre W → Ax x a' W → pre.length < N → body.wpIn (F.inRound l) (n - 1 - 1) P (ownPostG w.heap.size Kp I Ix (pre ++ [x]) W) a' W)
    (hdone : ∀ (D : Nat) (xs : List α) (W : World), w.heap.size ≤ D → S xs → I xs W → W.heap[D]? = some (.deferred (some [])) → Q .normal { a with defers := { target := .collected D, args := #[] } :: a.defers } W)
    (hstop : ∀ (D : Nat) (c : Code) (pre : List α) (W : World), w.heap.size ≤ D → Sp pre → Ix c pre W → W.heap[D]? = some (.deferred (some [])) → c.wpIn F n P Q { a with defers := { target := .collected D, args := #[] } :: a.defers } W) :
    (Code.rangeFunc g ps assign body).wpIn F n P Q a w := by
  refine wpIn_rangeFunc ?_
  intro fn hfn
  rw [hro]
  obtain ⟨rec, hrec⟩ : ∃ rec : LoopState → Option Code → Loop, rec = fun st pe => { state := st, pending := pe, fn, tmps := a.tmps, params := ps, assign, body, defers := w.heap.size } := ⟨_, rfl⟩
  obtain ⟨W1, hW1⟩ : ∃ W1, (w.alloc (.deferred (some []))).alloc (.loop (rec .ready none)) = W1 := ⟨_, rfl⟩
  have hL1 : W1.heap[w.heap.size + 1]? = some (.loop (rec .ready none)) := by
    rw [← hW1]; have := World.alloc_heap_new (w.alloc (.deferred (some []))) (.loop (rec .ready none)); rwa [World.size_alloc] at this
  have hK1 : W1.heap[w.heap.size]? = some (.deferred (some [])) := by
    rw [← hW1]; exact (Below.heap_alloc _ _ _ (by simp)).trans (World.alloc_heap_new w _)
  have hI1 : I [] W1 := by rw [← hW1]; exact hI.alloc _ (hI.alloc _ h0)
  have hb1 : Below w0.heap.size w0 W1 := by
    rw [← hW1]; exact hb0.trans ((((Below.refl _ w).alloc (Nat.le_refl _) _).alloc (by simp) _).mono hb0.size)
  refine ⟨w.heap.size + 1, [{ target := .collected w.heap.size, args := #[] }], W1, { target := .fn (.func gf) lb, args := #[.func (.yield (w.heap.size + 1)) #[] #[]] }, W1, gf,
    #[.func (.yield (w.heap.size + 1)) #[] #[]] ++ lb, W1, ?_, ?_, ?_, ?_, fun _ => h1, ?_⟩
  · rw [← hW1, hrec]; exact run_enterLoop_outer _ _ _ _ _
  · simp only [resolve, hg]
    simp [go_sem]
  · intro f' hf'; simp [Target.leads] at hf'; subst hf'; exact hFg
  · simp [invoke, go_sem, eg]
  · -- THE ITERATOR's CONTRACT, AT THE CALLER's INVARIANT WITH THE TWO FACTS OF BOOK-KEEPING BESIDE IT
    have hnw : ∀ {A B : World} {row : Option Nat}, (∀ r, row = some r → W1.heap.size ≤ r ∧ ∃ o : Obj, A.heap[r]? = some o ∧ o.isWalk = true) → (∀ r, row = some r → w.heap.size ≤ r ∧ ∃ o : Obj, A.heap[r]? = some o ∧ o.isCells = false) :=
      fun hr r e => by obtain ⟨hB, o, ho, hw⟩ := hr r e; exact ⟨by rw [← hW1] at hB; simp at hB; omega, o, ho, Obj.not_cells_of_walk hw⟩
    refine (hseq (w.heap.size + 1)
      (fun pre W => I pre W ∧ W.heap[w.heap.size + 1]? = some (.loop (rec .ready none)) ∧ W.heap[w.heap.size]? = some (.deferred (some [])))
      (fun pre W => ∃ c, Ix c pre W ∧ W.heap[w.heap.size + 1]? = some (.loop (rec .done (some c))) ∧ W.heap[w.heap.size]? = some (.deferred (some [])))
      W1 hb1
      (fun s A B row hs hg' hr => ⟨hI s A B row hs.1 hg' (hnw (B := B) hr), (grownBy_keeps hg' (fun r e => (hr r e).2) hs.2.1 rfl).trans hs.2.1, (grownBy_keeps hg' (fun r e => (hr r e).2) hs.2.2 rfl).trans hs.2.2⟩)
      (fun s A B row hs hg' hr => by
        obtain ⟨c, hc, hl, hk⟩ := hs
        exact ⟨c, hIx c s A B row hc hg' (hnw (B := B) hr), (grownBy_keeps hg' (fun r e => (hr r e).2) hl rfl).trans hl, (grownBy_keeps hg' (fun r e => (hr r e).2) hk rfl).trans hk⟩)
      ?_ ⟨hI1, hL1, hK1⟩).mono ?_
    · -- ONE ROUND
      rintro pre x W ⟨hi, hl, hk⟩ hRx hlen
      have hlt : w.heap.size + 1 < W.heap.size := (Array.getElem?_eq_some_iff.1 hl).1
      have hy := run_yield (P := P) (args := encs x) hl (by rw [hrec]; exact hps x)
      rw [hrec] at hy
      refine ⟨fn, _, assign, body, hy, roundIn_of_wpIn hfn (hassign _ pre x W _ hi hRx ?_)⟩
      clear hy
      intro a' Wa hkfa hkpa hia hax
      -- THE ASSIGN CODE MAY HAVE LAID BLOCKS (a loop variable that an inner function captures is boxed): the two blocks of book-keeping lie as they lay
      replace hl := hkfa.same _ _ (by omega) hl rfl
      replace hk := hkfa.same _ _ (Nat.le_refl _) hk rfl
      replace hlt : w.heap.size + 1 < Wa.heap.size := (Array.getElem?_eq_some_iff.1 hl).1
      replace hi := hia
      clear hia
      revert hkpa hkfa
      generalize W = Wb
      intro hkfa hkpa
      obtain ⟨W, rfl⟩ : ∃ W, W = Wa := ⟨_, rfl⟩
      refine ⟨_, run_beginRound hl (by rw [hrec]), ?_⟩
      have hl2 : (W.putObj (w.heap.size + 1) (.loop { rec .ready none with state := .busy })).heap[w.heap.size + 1]? = some (.loop { rec .ready none with state := .busy }) := World.putObj_heap_same hlt
      have hk2 : (W.putObj (w.heap.size + 1) (.loop { rec .ready none with state := .busy })).heap[w.heap.size]? = some (.deferred (some [])) := (World.putObj_heap_other (by omega)).trans hk
      have hw2 : Kp W (W.putObj (w.heap.size + 1) (.loop { rec .ready none with state := .busy })) := hKb _ _ _ _ (by omega) hl rfl rfl
      refine wpIn_mono (hbody _ pre x a' _ (by omega) ⟨_, hl2⟩ (hI.putObj _ hi (by omega) hl rfl) ((hAx x a').putObj (s := ()) _ hax (by omega) hl rfl) hlen) ?_
      have fin : ∀ (jump : Option Code) (W3 : World), KeepsFrom w.heap.size (W.putObj (w.heap.size + 1) (.loop { rec .ready none with state := .busy })) W3 →
          (Instr.endRound (w.heap.size + 1) jump).run P W3 = .ok (.bool jump.isNone) (W3.putObj (w.heap.size + 1) (.loop (rec (if jump.isNone then .ready else .done) jump))) ∧
          W3.heap[w.heap.size + 1]? = some (.loop { rec .ready none with state := .busy }) ∧
          (W3.putObj (w.heap.size + 1) (.loop (rec (if jump.isNone then .ready else .done) jump))).heap[w.heap.size + 1]? = some (.loop (rec (if jump.isNone then .ready else .done) jump)) ∧
          (W3.putObj (w.heap.size + 1) (.loop (rec (if jump.isNone then .ready else .done) jump))).heap[w.heap.size]? = some (.deferred (some [])) := fun jump W3 hk3 => by
        have hl3 := hk3.same _ _ (by omega) hl2 rfl
        have := run_endRound (P := P) jump hl3
        rw [hrec] at this ⊢
        exact ⟨this, by rw [hrec] at hl3; exact hl3, World.putObj_heap_same (Array.getElem?_eq_some_iff.1 hl3).1, (World.putObj_heap_other (by omega)).trans (hk3.same _ _ (Nat.le_refl _) hk2 rfl)⟩
      rintro e a3 W3 hp
      cases e with
      | normal =>
        obtain ⟨hk3, hkp3, hi3⟩ := hp
        obtain ⟨hr, hl3, hl4, hk4⟩ := fin none W3 hk3
        exact ⟨_, _, hr, .inl ⟨rfl, ⟨hI.putObj _ hi3 (by omega) hl3 rfl, hl4, hk4⟩, hKt hkpa (hKt (hKt hw2 hkp3) (hKb _ _ _ _ (by omega) hl3 rfl rfl))⟩⟩
      | ret =>
        obtain ⟨hk3, hi3⟩ := hp
        obtain ⟨hr, hl3, hl4, hk4⟩ := fin (some .ret) W3 hk3
        exact ⟨_, _, hr, .inr ⟨rfl, .ret, (hIx _).putObj _ hi3 (by omega) hl3 rfl, hl4, hk4⟩⟩
      | exit id =>
        obtain ⟨hk3, hi3⟩ := hp
        obtain ⟨hr, hl3, hl4, hk4⟩ := fin (some (.exit id)) W3 hk3
        exact ⟨_, _, hr, .inr ⟨rfl, .exit id, (hIx _).putObj _ hi3 (by omega) hl3 rfl, hl4, hk4⟩⟩
      | goto t =>
        obtain ⟨hk3, hi3⟩ := hp
        obtain ⟨hr, hl3, hl4, hk4⟩ := fin (some (.goto t)) W3 hk3
        exact ⟨_, _, hr, .inr ⟨rfl, .goto t, (hIx _).putObj _ hi3 (by omega) hl3 rfl, hl4, hk4⟩⟩
      | panic ch => exact hp.elim
      | outgrown => exact hp.elim
    · -- BEHIND THE ITERATOR
      rintro e W2 ⟨⟨v, rfl⟩, (⟨xs, hS, hi, hl, hk⟩ | ⟨pre, hSp, c, hi, hl, hk⟩)⟩
      · exact ⟨none, _, by have := run_endLoop (P := P) hl (by rw [hrec]; simp); rw [hrec] at this; exact this, hdone _ xs _ (Nat.le_refl _) hS (hI.putObj _ hi (by omega) hl rfl) ((World.putObj_heap_other (by omega)).trans hk)⟩
      · exact ⟨some c, _, by have := run_endLoop (P := P) hl (by rw [hrec]; simp); rw [hrec] at this; exact this, hstop _ c pre _ (Nat.le_refl _) hSp ((hIx c).putObj _ hi (by omega) hl rfl) ((World.putObj_heap_other (by omega)).trans hk)⟩
end Go.Proofs.YtfajkmmmmmfhiaaGreatDoor
