/- My texts StH, StI, StJ, St1, RngR, Rdc1, merged. -/
import Derived.Test.YtjodocheiejkeaaGreatDoorM16
import Derived.Test.YtjodocheiejkeaaGreatDoorM07
import Derived.Test.YtjodocheiejkeaaGreatDoorM06
import Derived.Test.YtjodocheiejkeaaGreatDoorM05
import Derived.Test.YtjodocheiejkeaaGreatDoorM04
import Derived.Test.YtjodocheiejkeaaGreatDoorM03
import Derived.Test.YtjodocheiejkeaaGreatDoorM02
import Derived.Test.YtjodocheiejkeaaGreatDoorM00
import Derived.Test.YtjodocheiejkeaaGreatDoorProg
import Derived.WalkKit
import Derived.Lib.Hide
import Derived.Deep.QuietTactic
import Derived.BigQuiet
import Derived.WalkSpells
import Derived.Lib.SliceRun
import Derived.MapKept
import Derived.Maps.OwnSet
import Derived.Maps.OwnOps
import Derived.Test.YtjodocheiejkeaaGreatDoorM01
import Derived.Deep.AppendLies
import Derived.Lib.Bytealg
import Derived.Deep.DeepCutAuto
import Derived.Laws.EntriesVeiled
import Derived.Deep.RegionWith
import Derived.Deep.OwnRows
import Derived.RangeFuncNested
import Derived.RangeFuncBound
import Derived.RangeFuncCalls
import Derived.RangeFuncLeaves
import Derived.OwnWalkIn
import Derived.TacticsInMore
import Derived.LoopNIn
import Derived.LoopIn
import Derived.Stop.RegionWithIn
import Derived.Shelf.Abstract
import Derived.Test.YtjodocheiejkeaaGreatDoorM15
import Derived.Test.YtjodocheiejkeaaGreatDoorM14
import Derived.Test.YtjodocheiejkeaaGreatDoorM13
import Derived.Deep.LoopGhost
import Derived.Deep.DrawnRows
import Derived.Test.YtjodocheiejkeaaGreatDoorM11
import Derived.Deep.AppendSrc
import Derived.Test.YtjodocheiejkeaaGreatDoorM09
import Derived.Test.YtjodocheiejkeaaGreatDoorM08
import Derived.Sort.QuietThIn
import Derived.Test.YtjodocheiejkeaaGreatDoorM10
import Derived.Maps.RangeWalk
import Derived.Lib.SlicesCompact
import Derived.Shelf.Sort.Plain
import Derived.Shelf.Slices.CompactI
import Derived.Shelf.Slices.In.SortNone
import Derived.Shelf.Strconv.Itoa3
import Derived.Shelf.Strings.BuilderK
import Derived.Sort.OwnSortedInts
import Derived.RangeFuncBox
import Derived.Maps.OwnIn
import Derived.Lib.RowBridge
import Derived.Test.YtjodocheiejkeaaGreatDoorM12
import Derived.Deep.DeepMust
import Derived.ProofKit
import Derived.OpenShut
import Derived.ChangeArms
import Derived.SizedLaws
import Derived.Deep.RegionHeld3

namespace Go.Proofs.YtjodocheiejkeaaGreatDoor
theorem stabD_flat {p : GP} {m M : List Int} (hv : validE p = 0) (hf : flatP p = true) (hm : setQ p.n m = true) (hM : IsLeast (redL p m) M) (hs : M.Pairwise (· < ·)) : (modelsB p m && decide (M = m)) = true ↔ StabD p m := by
  have hB := bodyW_valid hv
  rw [Bool.and_eq_true, decide_eq_true_eq]
  constructor
  · rintro ⟨hmod, rfl⟩
    refine ⟨hmod, fun T hT hc x hx => hM.least x hx T ((closed_red hB).2 fun i hi ha y hy hch => ?_)⟩
    obtain ⟨c1, c2⟩ := hc i hi ha
    cases hcc : (ixR p.rules i).choice with
    | true => exact c1 hcc y hy (hch hcc)
    | false =>
      obtain ⟨z, hz, hzT⟩ := c2 hcc
      have h4 := allR_get hf i hi
      rw [hcc, Bool.false_or, decide_eq_true_eq] at h4
      obtain ⟨a, ha2, rfl⟩ := mem_ix.1 hy
      obtain ⟨b, hb2, rfl⟩ := mem_ix.1 hz
      obtain rfl : a = b := by omega
      exact hzT
  · intro h
    have hcl := (closed_red (T := M) hB).1 hM.closed
    have h1 : ∀ x ∈ M, x ∈ m := fun x hx => hM.least x hx m ((closed_red hB).2 fun i hi ha y hy hc => by
      rw [avT_self] at ha
      exact models_head h.model hf hi ha hy hc)
    have h2 : ClosedM p m M := fun i hi ha => by
      refine ⟨fun hch x hx hxm => hcl i hi ha x hx (fun _ => hxm), fun hch => ?_⟩
      have hb : bodyT (ixR p.rules i) m = true := by rw [← avT_self]; exact avT_mono h1 (hB i hi) ha
      obtain ⟨y, hy, -⟩ := models_ex h.model hi hb hch
      exact ⟨y, hy, hcl i hi ha y hy (fun e => by rw [hch] at e; cases e)⟩
    have h3 := h.least M h1 h2
    exact ⟨h.model, sorted_eq hs (setQ_sorted hm) fun x => ⟨h1 x, h3 x⟩⟩
theorem wsum_lhs {s : List Int} {y : GR} (hp : ∀ x ∈ y.body, 0 < x) (hs : y.sum = true) : ∀ k, k ≤ y.body.length → wsum s y k = lhsTo s y k
  | 0, _ => rfl
  | k + 1, hk => by
    have hx := hp _ (ix_mem (show k < y.body.length by omega))
    unfold wsum lhsTo wOf litT
    rw [wsum_lhs hp hs k (by omega), hs, if_pos hx]
    simp only [if_true, decide_eq_true_eq]
theorem lhsTo_le {s : List Int} {y : GR} (hs : y.sum = false) : ∀ k : Nat, lhsTo s y k ≤ k
  | 0 => by simp [lhsTo]
  | k + 1 => by
    have ih := lhsTo_le (s := s) hs k
    unfold lhsTo wOf
    rw [hs]
    split <;> simp <;> omega
theorem lhsTo_full {s : List Int} {y : GR} (hs : y.sum = false) : ∀ k : Nat, (k : Int) ≤ lhsTo s y k ↔ ∀ j, j < k → ix y.body j ∈ s
  | 0 => by simp [lhsTo]
  | k + 1 => by
    have ih := lhsTo_full (s := s) hs k
    have hle := lhsTo_le (s := s) hs k
    unfold lhsTo wOf
    rw [hs]
    constructor
    · intro h
      by_cases hx : ix y.body k ∈ s
      · rw [if_pos hx] at h
        simp only [Bool.false_eq_true, if_false] at h
        intro j hj
        by_cases e : j = k
        · subst e; exact hx
        · exact ih.1 (by push_cast at h; omega) j (by omega)
      · rw [if_neg hx] at h
        push_cast at h; omega
    · intro h
      rw [if_pos (h k (by omega))]
      have := ih.2 fun j hj => h j (by omega)
      simp only [Bool.false_eq_true, if_false]
      push_cast; omega
theorem bodyT_need {s : List Int} {y : GR} (hp : ∀ x ∈ y.body, 0 < x) : bodyT y s = true ↔ need0 y ≤ lhs s y := by
  unfold bodyT need0 lhs
  cases hs : y.sum with
  | true => rw [if_pos rfl, if_pos rfl, wsum_lhs hp hs _ (Nat.le_refl _), decide_eq_true_eq]
  | false =>
    rw [if_neg Bool.false_ne_true, if_neg Bool.false_ne_true, lhsTo_full hs]
    constructor
    · intro h j hj
      have h1 := allR_get h j hj
      unfold litT at h1
      rw [if_pos (hp _ (ix_mem hj))] at h1
      exact of_decide_eq_true h1
    · intro h
      refine allR_true fun j hj => ?_
      unfold litT
      rw [if_pos (hp _ (ix_mem hj))]
      exact decide_eq_true (h j hj)
theorem red_pos {m : List Int} {r x : GR} (h : redB m r = some x) : (∀ y ∈ x.body, 0 < y) ∧ x.choice = false := by
  unfold redB at h
  split at h
  · cases h
  · split at h
    · obtain rfl := Option.some.inj h
      exact ⟨fun y hy => (by cases hy), rfl⟩
    · obtain rfl := Option.some.inj h
      refine ⟨fun y hy => ?_, rfl⟩
      obtain ⟨z, hz, rfl⟩ := List.mem_map.1 (show y ∈ (posP r r.body.length).map (·.1) from hy)
      obtain ⟨j, hj, h1, rfl⟩ := (posP_mem _).1 hz
      exact h1
def satR (R : List GR) (s : List Int) : Bool := allR R.length (fun q => satT (ixR R q) s)
theorem satR_red {p : GP} {m s : List Int} (hv : validE p = 0) : satR (redL p m) s = true ↔ ClosedM p m s := by
  have hB := bodyW_valid hv
  have hsat : ∀ (x : GR) (hd : List Int) (i : Nat), i < p.rules.length → redB m (ixR p.rules i) = some x → (satT (withHead x hd) s = true ↔ (avT s m (ixR p.rules i) = true → ∃ y ∈ hd, y ∈ s)) := fun x hd i hi hx => by
    obtain ⟨h1, h2⟩ := red_pos hx
    have hb : bodyT (withHead x hd) s = true ↔ avT s m (ixR p.rules i) = true := by
      rw [bodyT_need (y := withHead x hd) h1, (withHead_need x hd s).1, (withHead_need x hd s).2]
      exact red_some s (hB i hi) hx
    have ha : anyR hd.length (fun j => decide (ix hd j ∈ s)) = true ↔ ∃ y ∈ hd, y ∈ s := by
      rw [any_ix hd (fun y => decide (y ∈ s)), List.any_eq_true]
      simp only [decide_eq_true_eq]
    unfold satT
    rw [show (withHead x hd).choice = false from h2, Bool.false_or, Bool.or_eq_true, ← hb, ← ha]
    constructor
    · rintro (h | h) hbt
      · rw [hbt] at h; cases h
      · exact h
    · intro h
      cases hbt : bodyT (withHead x hd) s with
      | true => exact .inr (h hbt)
      | false => exact .inl rfl
  constructor
  · intro h i hi ha
    have hmem : ∀ y ∈ redL p m, satT y s = true := fun y hy => by
      obtain ⟨q, hq, rfl⟩ := ixR_of_mem hy
      exact allR_get h q hq
    cases hr : redB m (ixR p.rules i) with
    | none => rw [red_none s hr] at ha; cases ha
    | some x =>
      refine ⟨fun hch a haH ham => ?_, fun hch => ?_⟩
      · have h1 : withHead x [a] ∈ redL p m := (redTo_mem _).2 ⟨i, hi, redR_mem.2 ⟨x, [a], hr, rfl, .inl ⟨hch, a, haH, ham, rfl⟩⟩⟩
        obtain ⟨y, hy, hys⟩ := (hsat x [a] i hi hr).1 (hmem _ h1) ha
        obtain rfl := List.mem_singleton.1 hy
        exact hys
      · have h1 : withHead x (ixR p.rules i).head ∈ redL p m := (redTo_mem _).2 ⟨i, hi, redR_mem.2 ⟨x, _, hr, rfl, .inr ⟨hch, rfl⟩⟩⟩
        exact (hsat x _ i hi hr).1 (hmem _ h1) ha
  · intro h
    refine allR_true fun q hq => ?_
    obtain ⟨i, hi, h2⟩ := (redTo_mem _).1 (ixR_mem hq : ixR (redL p m) q ∈ redL p m)
    obtain ⟨x, hd, hr, e, h3⟩ := redR_mem.1 h2
    rw [e]
    refine (hsat x hd i hi hr).2 fun ha => ?_
    obtain ⟨c1, c2⟩ := h i hi ha
    rcases h3 with ⟨hc, a, h4, h5, rfl⟩ | ⟨hc, rfl⟩
    · exact ⟨a, by simp, c1 hc a h4 h5⟩
    · exact c2 hc
def sbTo (m : List Int) (k : Nat) : Nat → List Int
  | 0 => []
  | j + 1 => if bitAt k j then sbTo m k j ++ [ix m j] else sbTo m k j
def sbL (m : List Int) (k : Nat) : List Int := sbTo m k m.length
theorem sbTo_mem {m : List Int} {k : Nat} {x : Int} : ∀ j, x ∈ sbTo m k j ↔ ∃ i, i < j ∧ bitAt k i = true ∧ x = ix m i
  | 0 => by simp [sbTo]
  | j + 1 => by
    have ih := sbTo_mem (m := m) (k := k) (x := x) j
    unfold sbTo
    constructor
    · intro h
      split at h
      · rename_i hb
        rcases List.mem_append.1 h with h | h
        · obtain ⟨i, h1, h2⟩ := ih.1 h; exact ⟨i, by omega, h2⟩
        · exact ⟨j, by omega, hb, by simpa using h⟩
      · obtain ⟨i, h1, h2⟩ := ih.1 h; exact ⟨i, by omega, h2⟩
    · rintro ⟨i, h1, h2, h3⟩
      by_cases e : i = j
      · subst e; rw [if_pos h2]; exact List.mem_append.2 (.inr (by simp [h3]))
      · have := ih.2 ⟨i, by omega, h2, h3⟩
        split
        · exact List.mem_append.2 (.inl this)
        · exact this
theorem sbTo_len (m : List Int) (k : Nat) : ∀ j, (sbTo m k j).length ≤ j
  | 0 => by simp [sbTo]
  | j + 1 => by
    have ih := sbTo_len m k j
    unfold sbTo
    split
    · simp; omega
    · omega
theorem sbTo_full {m : List Int} {k : Nat} : ∀ j, (sbTo m k j).length = j ↔ ∀ i, i < j → bitAt k i = true
  | 0 => by simp [sbTo]
  | j + 1 => by
    have ih := sbTo_full (m := m) (k := k) j
    have hl := sbTo_len m k j
    unfold sbTo
    constructor
    · intro h i hi
      split at h
      · rename_i hb
        rw [List.length_append, List.length_singleton] at h
        by_cases e : i = j
        · subst e; exact hb
        · exact ih.1 (by omega) i (by omega)
      · omega
    · intro h
      rw [if_pos (h j (by omega)), List.length_append, List.length_singleton, ih.2 fun i hi => h i (by omega)]
theorem sbL_mem {m : List Int} {k : Nat} {x : Int} (h : x ∈ sbL m k) : x ∈ m := by
  obtain ⟨i, hi, -, rfl⟩ := (sbTo_mem _).1 h
  exact ix_mem hi
theorem bitAt_nat (k i : Nat) : bitAt k i = Nat.testBit k i := by
  unfold bitAt
  rw [Nat.testBit_eq_decide_div_mod_eq]
  congr 1
  rw [eq_iff_iff]
  have : ((k : Int) / 2 ^ i % 2) = ((k / 2 ^ i % 2 : Nat) : Int) := by push_cast; rfl
  rw [this]
  omega
theorem bits_of (P : Nat → Bool) : ∀ n : Nat, ∃ k : Nat, k < 2 ^ n ∧ ∀ i, i < n → bitAt k i = P i
  | 0 => ⟨0, by simp, fun i hi => absurd hi (Nat.not_lt_zero _)⟩
  | n + 1 => by
    obtain ⟨k, hk, h⟩ := bits_of P n
    cases hp : P n with
    | false =>
      refine ⟨k, by rw [Nat.pow_succ]; omega, fun i hi => ?_⟩
      by_cases e : i = n
      · subst e; rw [hp, bitAt_nat, Nat.testBit_lt_two_pow hk]
      · exact h i (by omega)
    | true =>
      refine ⟨2 ^ n + k, by rw [Nat.pow_succ]; omega, fun i hi => ?_⟩
      rw [bitAt_nat]
      by_cases e : i = n
      · subst e; rw [hp, Nat.testBit_two_pow_add_eq, Nat.testBit_lt_two_pow hk]; rfl
      · rw [Nat.testBit_two_pow_add_gt (by omega), ← bitAt_nat]; exact h i (by omega)
theorem sbL_all (m : List Int) (k : Nat) (h : ∀ i, i < m.length → bitAt k i = true) {x : Int} (hx : x ∈ m) : x ∈ sbL m k := by
  obtain ⟨j, hj, rfl⟩ := mem_ix.1 hx
  exact (sbTo_mem _).2 ⟨j, hj, h j hj, rfl⟩
theorem closedM_congr {p : GP} {m S T : List Int} (h : ∀ x, x ∈ S ↔ x ∈ T) (hc : ClosedM p m S) : ClosedM p m T := fun i hi ha => by
  have e : avT S m (ixR p.rules i) = avT T m (ixR p.rules i) := by
    have hl : ∀ l, hlT S m l = hlT T m l := fun l => by
      unfold hlT
      by_cases h0 : 0 < l
      · rw [if_pos h0, if_pos h0, decide_eq_decide.2 (h l)]
      · rw [if_neg h0, if_neg h0]
    have hw : ∀ k, avW S m (ixR p.rules i) k = avW T m (ixR p.rules i) k := fun k => by
      induction k with
      | zero => rfl
      | succ k ih => unfold avW; rw [ih, hl]
    unfold avT
    rw [hw]
    split
    · rfl
    · unfold allR
      congr 1
      funext j
      exact hl _
  rw [← e] at ha
  obtain ⟨c1, c2⟩ := hc i hi ha
  exact ⟨fun hch x hx hxm => (h x).1 (c1 hch x hx hxm), fun hch => let ⟨y, hy, hyS⟩ := c2 hch; ⟨y, hy, (h y).1 hyS⟩⟩
def MinIs (R : List GR) (m : List Int) (b : Bool) : Prop :=
  (∃ k : Nat, k < 2 ^ m.length ∧ (∀ j : Nat, j < k → satR R (sbL m j) = false) ∧ satR R (sbL m k) = true ∧ b = decide ((sbL m k).length = m.length)) ∨ ((∀ j : Nat, j < 2 ^ m.length → satR R (sbL m j) = false) ∧ b = false)
theorem full_last {n k : Nat} (hk : k < 2 ^ n) (h : ∀ i, i < n → bitAt k i = true) : k + 1 = 2 ^ n := by
  have : k = 2 ^ n - 1 := by
    refine Nat.eq_of_testBit_eq fun i => ?_
    rw [Nat.testBit_two_pow_sub_one]
    by_cases hi : i < n
    · rw [← bitAt_nat, h i hi, decide_eq_true hi]
    · rw [decide_eq_false hi, Nat.testBit_lt_two_pow (Nat.lt_of_lt_of_le hk (Nat.pow_le_pow_right (by omega) (by omega)))]
  have := Nat.two_pow_pos n
  omega
theorem stabD_min {p : GP} {m : List Int} (hv : validE p = 0) (hms : m.Pairwise (· < ·)) (hmod : modelsB p m = true) {b : Bool} (h : MinIs (redL p m) m b) : b = true ↔ StabD p m := by
  constructor
  · rintro rfl
    rcases h with ⟨k, hk, hno, hsat, hb⟩ | ⟨-, hb⟩
    · have hlen := of_decide_eq_true hb.symm
      have hfull := (sbTo_full m.length).1 hlen
      have hlast := full_last hk hfull
      refine ⟨hmod, fun T hT hc x hx => Classical.byContradiction fun hxT => ?_⟩
      obtain ⟨j, hj, hbj⟩ := bits_of (fun i => decide (ix m i ∈ T)) m.length
      have hcl : ClosedM p m (sbL m j) := closedM_congr (fun y => by
        constructor
        · intro hy
          obtain ⟨q, hq, rfl⟩ := mem_ix.1 (hT y hy)
          exact (sbTo_mem _).2 ⟨q, hq, by rw [hbj q hq]; exact decide_eq_true hy, rfl⟩
        · intro hy
          obtain ⟨q, hq, hb2, rfl⟩ := (sbTo_mem _).1 hy
          rw [hbj q hq] at hb2
          exact of_decide_eq_true hb2) hc
      have hs := (satR_red hv).2 hcl
      have hjk : ¬ j < k := fun hlt => by rw [hno j hlt] at hs; cases hs
      obtain rfl : j = k := by omega
      obtain ⟨q, hq, rfl⟩ := mem_ix.1 hx
      have := hfull q hq
      rw [hbj q hq] at this
      exact hxT (of_decide_eq_true this)
    · cases hb
  · intro h0
    have hself : ClosedM p m m := fun i hi ha => by
      rw [avT_self] at ha
      exact ⟨fun _ x _ hxm => hxm, fun hch => models_ex hmod hi ha hch⟩
    have key : ∀ k, satR (redL p m) (sbL m k) = true → ∀ x ∈ m, x ∈ sbL m k := fun k hs => h0.least _ (fun x hx => sbL_mem hx) ((satR_red hv).1 hs)
    rcases h with ⟨k, hk, hno, hsat, rfl⟩ | ⟨hno, -⟩
    · refine decide_eq_true ?_
      by_cases hfull : ∀ i, i < m.length → bitAt k i = true
      · exact (sbTo_full _).2 hfull
      · exfalso
        refine hfull fun i hi => ?_
        obtain ⟨q, hq, hb, e⟩ := (sbTo_mem _).1 (key k hsat _ (ix_mem hi))
        have hqi : q = i := by
          rcases Nat.lt_trichotomy q i with h1 | h1 | h1
          · have := List.pairwise_iff_getElem.1 hms q i hq hi h1
            rw [← ix_get hq, ← ix_get hi] at this
            omega
          · exact h1
          · have := List.pairwise_iff_getElem.1 hms i q hi hq h1
            rw [← ix_get hq, ← ix_get hi] at this
            omega
        rw [← hqi]; exact hb
    · obtain ⟨j, hj, hbj⟩ := bits_of (fun _ => true) m.length
      have hs := (satR_red hv).2 (closedM_congr (fun x => ⟨fun hx => sbL_all m j hbj hx, fun hx => sbL_mem hx⟩) hself)
      rw [hno j hj] at hs; cases hs
end Go.Proofs.YtjodocheiejkeaaGreatDoor
namespace Go.Proofs.YtjodocheiejkeaaGreatDoor
def atL (n : Nat) : List Int := (List.range n).map fun (j : Nat) => (j : Int) + 1
theorem atL_len (n : Nat) : (atL n).length = n := by simp [atL]
theorem atL_ix {n j : Nat} (hj : j < n) : ix (atL n) j = (j : Int) + 1 := by
  unfold ix atL
  rw [List.getD_eq_getElem?_getD, List.getElem?_map, List.getElem?_range hj]
  rfl
theorem sbL_atL (n k : Nat) : sbL (atL n) k = subL k n := by
  have : ∀ j, j ≤ n → sbTo (atL n) k j = subL k j := fun j => by
    induction j with
    | zero => intro _; rfl
    | succ j ih =>
      intro hj
      unfold sbTo subL
      rw [ih (by omega), atL_ix (by omega)]
  unfold sbL
  rw [atL_len]
  exact this n (Nat.le_refl _)
end Go.Proofs.YtjodocheiejkeaaGreatDoor
namespace Go.Proofs.YtjodocheiejkeaaGreatDoor
theorem bodyV_rule {r : GR} {n : Int} (h : ruleE r n = 0) : BodyV r n := by
  unfold ruleE at h
  refine ⟨?_, ?_, fun hs => ?_, ?_⟩ <;> grind
theorem red_bodyV {p : GP} {m : List Int} (hv : validE p = 0) : ∀ q, q < (redL p m).length → BodyV (ixR (redL p m) q) p.n := fun q hq => by
  obtain ⟨i, hi, h2⟩ := (redTo_mem _).1 (ixR_mem hq : ixR (redL p m) q ∈ redL p m)
  obtain ⟨x, hd, hr, e, -⟩ := redR_mem.1 h2
  rw [e]
  have hW := bodyW_valid hv i hi
  have h0 := red_def (hd := []) hW (rule_parts (ruleE_at hv hi)).2 hr (by simp [increasingB, orderedB, allR]) (by simp)
  unfold defAt at h0
  simp only [Bool.and_eq_true, decide_eq_true_eq] at h0
  have h1 := bodyV_rule h0.1.1.1
  exact ⟨h1.rng, h1.ord, h1.sum, h1.bound⟩
theorem satR_any (R : List GR) (s : List Int) : (!anyR R.length fun j => !satT (ixR R j) s) = satR R s := by
  unfold satR
  cases h : allR R.length (fun q => satT (ixR R q) s) with
  | true => rw [anyR_false fun j hj => by rw [allR_get h j hj]; rfl]; rfl
  | false =>
    obtain ⟨j, hj, hf⟩ : ∃ j, j < R.length ∧ satT (ixR R j) s = false := Classical.byContradiction fun hn => by
      have : allR R.length (fun q => satT (ixR R q) s) = true := allR_true fun j hj => by
        cases e : satT (ixR R j) s with
        | true => rfl
        | false => exact absurd ⟨j, hj, e⟩ hn
      rw [h] at this; cases this
    rw [anyR_true j hj (by rw [hf]; rfl)]; rfl
end Go.Proofs.YtjodocheiejkeaaGreatDoor
namespace Go.Proofs.YtjodocheiejkeaaGreatDoor
open Go.RowKit
set_option maxHeartbeats 1000000 in
theorem sat11_any (S : List Int) (b : Nat) (vs : Value) (x : Int) (w : World) (h : Blk w b [vs] 23) (hS : Ints w vs S) :
    Calls Tryz.prog 148 #[.int .i64 x, .pointer (some ⟨b, 0, none⟩)] w fun e w' => e = .returned (.bool (decide (x ∈ S))) ∧ w = w' := by
  obtain ⟨a4, c4, rfl, -, hl4, -, -⟩ := hS.form
  have k0 := h.cell 0
  have HS := Lib.hid hS
  clear h hS
  go_enter Tryz.func148, Tryz.ntmps148
  go_wp2_with (go_at_call 55; (with_reducible refine (contains_any _ _ x _ HS.out).mono ?_); rintro e w1 ⟨rfl, rfl⟩)
  go_ret
  exact ⟨rfl, rfl⟩
set_option maxHeartbeats 1000000 in
theorem idx_stm (v : Value) (l : List Int) (w : World) (h : Ints w v l) (g : Nat → Bool) (cap : Value)
    (hg : ∀ w', Below w.heap.size w w' → ∀ j, j < l.length → Calls Tryz.prog 148 #[.int .i64 (ix l j), cap] w' fun e w'' => e = .returned (.bool (g j)) ∧ Below w'.heap.size w' w'') :
    Calls Tryz.prog 83 #[v, .func (.func 148) #[] #[cap]] w fun e w' => ∃ r, e = .returned (.int .i64 r) ∧ IxP l.length g r ∧ Below w.heap.size w w' := by
  obtain ⟨a1, c1, rfl, -, hl1, -, hcell⟩ := h.form
  have HG := Lib.hid hg
  clear h hg
  go_enter Tryz.func83, Tryz.ntmps83
  go_wp2
  go_loopw [8] (fun i wx => IxR l.length g w i wx) (fun i _ => l.length - (intOf i).toNat)
  case atStart => exact ⟨0, by omega, rfl, fun j hj => absurd hj (Nat.not_lt_zero _), Below.refl _ _⟩
  case round =>
    obtain ⟨k, hk, rfl, hall, hb⟩ := hrel
    have HA := Lib.hid hall
    clear hall
    by_cases hlt : k < l.length
    · obtain ⟨b, off, rfl, hbl, hc⟩ := hcell (by omega)
      have hk1 := (bcell hb _ _ hbl).trans (hc k hlt)
      clear hc hcell
      cases g1 : g k with
      | true =>
        have HK : Hid (_ = true) := Lib.hid g1
        have HC := Lib.hid (HG.out _ hb k hlt)
        rw [g1] at HC
        clear g1
        go_wp2_with (go_at_call 148; refine (HC.out).mono ?_; rintro e w1 ⟨rfl, hb1⟩)
        go_ret
        exact ⟨_, rfl, .inr ⟨k, hlt, rfl, HK.out, HA.out⟩, bon hb hb1⟩
      | false =>
        have HN := Lib.hid (lt_succ_all HA.out g1)
        have HC := Lib.hid (HG.out _ hb k hlt)
        rw [g1] at HC
        clear g1
        go_wp2_with (go_at_call 148; refine (HC.out).mono ?_; rintro e w1 ⟨rfl, hb1⟩)
        first
          | (go_roundw
             case rel => (exact ⟨k + 1, by omega, by go_num, HN.out, bon hb hb1⟩)
             case measure => (simp [intOf]; omega))
          | (refine ⟨?_, ?_⟩
             · (exact ⟨k + 1, by omega, by go_num, HN.out, bon hb hb1⟩)
             · (simp [intOf]; omega))
    · have HN : Hid (∀ j, j < l.length → g j = false) := Lib.hid (fun j hj => HA.out j (by omega))
      go_wp2
      go_ret
      exact ⟨_, rfl, .inl ⟨rfl, HN.out⟩, hb⟩
set_option maxHeartbeats 1000000 in
theorem ctn_stm (v : Value) (l : List Int) (w : World) (h : Ints w v l) (g : Nat → Bool) (cap : Value)
    (hg : ∀ w', Below w.heap.size w w' → ∀ j, j < l.length → Calls Tryz.prog 148 #[.int .i64 (ix l j), cap] w' fun e w'' => e = .returned (.bool (g j)) ∧ Below w'.heap.size w' w'') :
    Calls Tryz.prog 42 #[v, .func (.func 148) #[] #[cap]] w fun e w' => e = .returned (.bool (anyR l.length g)) ∧ Below w.heap.size w w' := by
  have HI := Lib.hid (idx_stm v l w h g cap hg)
  obtain ⟨a1, c1, rfl, -⟩ := h.form
  clear h hg
  go_enter Tryz.func42, Tryz.ntmps42
  go_wp2_with (go_at_call 83; refine (HI.out).mono ?_; rintro e w1 ⟨r, rfl, hr, hb1⟩; have HR := Lib.hid hr; clear hr)
  go_ret
  exact ⟨ret_bool HR.out.any, hb1⟩
theorem satT_not (r : GR) (S : List Int) : (!satT r S) = (!r.choice && bodyT r S && !anyR r.head.length (fun j => decide (ix r.head j ∈ S))) := by
  unfold satT
  cases r.choice <;> cases bodyT r S <;> simp
set_option maxHeartbeats 4000000 in
set_option maxRecDepth 100000 in
theorem sat1_any (S : List Int) (b : Nat) (vs v : Value) (r : GR) (n : Int) (w : World) (hr : RuleIs w v r) (h : Blk w b [vs] 23) (hS : Ints w vs S) (hml : S.length ≤ 1000000000) (hok : BodyV r n) :
    Calls Tryz.prog 147 #[v, .pointer (some ⟨b, 0, none⟩)] w fun e w' => e = .returned (.bool (!satT r S)) ∧ Below w.heap.size w w' := by
  obtain ⟨vh, vb, vw, rfl, hsl⟩ := hr
  obtain ⟨a4, c4, rfl, -, hl4, -, -⟩ := hS.form
  obtain ⟨ah, ch, rfl, -, hlh, -, -⟩ := hsl.head.form
  have hal := bal (Below.refl w.heap.size w) (.cells #[.bool r.choice, .slice ah r.head.length ch, .bool r.sum, .int .i64 r.bound, vb, vw] 55)
  have HAL := Lib.hid hal
  have HBX := Lib.hid (Blk.new w [.bool r.choice, .slice ah r.head.length ch, .bool r.sum, .int .i64 r.bound, vb, vw] 55)
  have kr := HBX.out.cell
  have hlr := HBX.out.lt
  have HRU : Hid (RuleIs _ (.agg #[.bool r.choice, .slice ah r.head.length ch, .bool r.sum, .int .i64 r.bound, vb, vw]) r) := Lib.hid ⟨_, _, _, rfl, hsl.below hal⟩
  have HHI := Lib.hid (hsl.head.below hal)
  have HMB := Lib.hid (h.below hal)
  have HSI := Lib.hid (hS.below hal)
  have HOK := Lib.hid hok
  have kb := (h.below hal).cell 0
  have hlb := (h.below hal).lt
  have HF := Lib.hid (satT_not r S)
  clear hsl h hS hok hal
  go_enter Tryz.func147, Tryz.ntmps147
  go_upto_region 1 with fail
  generalize w.alloc (.cells #[.bool r.choice, .slice ah r.head.length ch, .bool r.sum, .int .i64 r.bound, vb, vw] 55) = W0 at *
  cases hc : r.choice with
  | true =>
    rw [hc] at kr HF
    clear hc
    go_wp2
    go_ret
    exact ⟨ret_bool HF.out.symm, HAL.out⟩
  | false =>
    rw [hc] at kr HF HRU
    clear hc
    cases hbt : bodyT r S with
    | false =>
      rw [hbt] at HF
      have HBT := Lib.hid hbt
      clear hbt
      go_wp2_with (go_at_call 41; (with_reducible refine (rBody_any _ _ r S _ HRU.out HSI.out hml HOK.out).mono ?_); rintro e w2 ⟨e2, hb2⟩; rw [HBT.out] at e2; subst e2; have HB2 := Lib.hid (bon HAL.out hb2); have kr2 := fun o => (bcell hb2 _ o hlr).trans (kr o); have HBV := Lib.hid (HMB.out.below hb2); have HS2 := Lib.hid (HSI.out.below hb2); have HH2 := Lib.hid (HHI.out.below hb2); have hl2 := Nat.lt_of_lt_of_le hlr hb2.size; clear hb2)
      go_ret
      exact ⟨ret_bool HF.out.symm, HB2.out⟩
    | true =>
      rw [hbt] at HF
      have HBT := Lib.hid hbt
      clear hbt
      go_wp2_with (first
        | (go_at_call 42; (with_reducible refine (ctn_stm _ r.head w2 HH2.out (fun j => decide (ix r.head j ∈ S)) (.pointer (some ⟨b, 0, none⟩)) (fun w' hb' j _ => (sat11_any S b _ (ix r.head j) w' (HBV.out.below hb') (HS2.out.below hb')).mono fun e w'' ⟨h1, h2⟩ => ⟨h1, h2 ▸ Below.refl _ _⟩)).mono ?_); rintro e w3 ⟨rfl, hb3⟩; have HB3 := Lib.hid (bon HB2.out hb3); clear hb3)
        | (go_at_call 41; (with_reducible refine (rBody_any _ _ r S _ HRU.out HSI.out hml HOK.out).mono ?_); rintro e w2 ⟨e2, hb2⟩; rw [HBT.out] at e2; subst e2; have HB2 := Lib.hid (bon HAL.out hb2); have kr2 := fun o => (bcell hb2 _ o hlr).trans (kr o); have HBV := Lib.hid (HMB.out.below hb2); have HS2 := Lib.hid (HSI.out.below hb2); have HH2 := Lib.hid (HHI.out.below hb2); have hl2 := Nat.lt_of_lt_of_le hlr hb2.size; clear hb2))
      go_ret
      exact ⟨ret_bool HF.out.symm, HB3.out⟩
def SeqStopsR {α : Type} (F : Fence) (n : Nat) (P : Program) (g : Nat) (lb : Array Value) (encs : α → Array Value) (Kp : World → World → Prop) (R : α → World → Prop) (S Sp : List α → Prop) (N : Nat) (w : World) : Prop :=
  ∀ (l : Nat) (J Jx : List α → World → Prop) (W : World), Below w.heap.size w W → AbidesFrom W.heap.size J → AbidesFrom W.heap.size Jx →
    (∀ pre x W1, J pre W1 → R x W1 → pre.length < N → YieldAt F (n - 1) P l (encs x) W1 fun e W' =>
      (e = .returned (.bool true) ∧ J (pre ++ [x]) W' ∧ Kp W1 W') ∨ (e = .returned (.bool false) ∧ Jx (pre ++ [x]) W')) →
    J [] W →
    CallsIn F n P g (#[.func (.yield l) #[] #[]] ++ lb) W fun e W' => (∃ v, e = .returned v) ∧ ((∃ xs, S xs ∧ J xs W') ∨ (∃ pre, Sp pre ∧ Jx pre W'))
variable {F : Fence} {n : Nat} {P : Program}
theorem wpIn_rangeFunc_ownR {α : Type} {g : Operand} {ps : Array Tmp} {assign body : Code} {Q : Exit → Act → World → Prop} {a : Act} {w : World}
    (hro : F.round = none) (h1 : 1 ≤ n) {gf : Nat} {lb : Array Value} (hg : a.eval g = .func (.func gf) #[] lb) (hFg : F.fn gf) (eg : ∀ args w, (callFunc gf args).run P w = .ok (.enter gf args) w)
    {encs : α → Array Value} {Kp : World → World → Prop} {R : α → World → Prop} {S Sp : List α → Prop} {N : Nat} {w0 : World} (hseq : SeqStopsR F (n - 1) P gf lb encs Kp R S Sp N w0)
    (hKt : ∀ {A B C : World}, Kp A B → Kp B C → Kp A C) (hKb : ∀ (W : World) (l : Nat) (o o' : Obj), w.heap.size ≤ l → W.heap[l]? = some o → o.isCells = false → o.isWalk = false → Kp W (W.putObj l o')) (hb0 : Below w0.heap.size w0 w) (hps : ∀ x, (encs x).size = ps.size)
    (I : List α → World → Prop) (Ix : Code → List α → World → Prop) (hI : OwnFrom w.heap.size I) (hIx : ∀ c, OwnFrom w.heap.size (Ix c)) (h0 : I [] w) (Ax : α → Act → World → Prop) (hAx : ∀ x a', OwnFrom w.heap.size (fun (_ : Unit) W => Ax x a' W))
    (hassign : ∀ (l : Nat) (pre : List α) (x : α) (W : World) (K : Act → World → Prop), I pre W → R x W → (∀ a' W', KeepsFrom w.heap.size W W' → Kp W W' → I pre W' → Ax x a' W' → K a' W') →
      assign.wpIn (F.inRound l) (n - 1 - 1) P (Exit.then K (fun _ _ _ => False)) { tmps := (ps.zip (encs x)).foldl (fun t (p, v) => t.setIfInBounds p v) a.tmps, defers := [] } W)
    (hbody : ∀ (l : Nat) (pre : List α) (x : α) (a' : Act) (W : World), w.heap.size ≤ l → (∃ r, W.heap[l]? = some (.loop r)) → I pre W → Ax x a' W → pre.length < N → body.wpIn (F.inRound l) (n - 1 - 1) P (ownPostG w.heap.size Kp I Ix (pre ++ [x]) W) a' W)
    (hdone : ∀ (D : Nat) (xs : List α) (W : World), w.heap.size ≤ D → S xs → I xs W → W.heap[D]? = some (.deferred (some [])) → Q .normal { a with defers := { target := .collected D, args := #[] } :: a.defers } W)
    (hstop : ∀ (D : Nat) (c : Code) (pre : List α) (W : World), w.heap.size ≤ D → Sp pre → Ix c pre W → W.heap[D]? = some (.deferred (some [])) → c.wpIn F n P Q { a with defers := { target := .collected D, args := #[] } :: a.defers } W) :
    (Code.rangeFunc g ps assign body).wpIn F n P Q a w := by
  refine wpIn_rangeFunc ?_
  intro fn hfn
  rw [hro]
  obtain ⟨rec, hrec⟩ : ∃ rec : LoopState → Option Code → Loop, rec = fun st pe => { state := st, pending := pe, fn, tmps := a.tmps, params := ps, assign, body, defers := w.heap.size } := ⟨_, rfl⟩
  obtain ⟨W1, hW1⟩ : ∃ W1, (w.alloc (.deferred (some []))).alloc (.loop (rec .ready none)) = W1 := ⟨_, rfl⟩
  have hL1 : W1.heap[w.heap.size + 1]? = some (.loop (rec .ready none)) := by
    rw [← hW1]; have := World.alloc_heap_new (w.alloc (.deferred (some []))) (.loop (rec .ready none)); rwa [World.size_alloc] at this
  have hK1 : W1.heap[w.heap.size]? = some (.deferred (some [])) := by
    rw [← hW1]; exact (Below.heap_alloc _ _ _ (by simp)).trans (World.alloc_heap_new w _)
  have hI1 : I [] W1 := by rw [← hW1]; exact hI.alloc _ (hI.alloc _ h0)
  have hb1 : Below w0.heap.size w0 W1 := by
    rw [← hW1]; exact hb0.trans ((((Below.refl _ w).alloc (Nat.le_refl _) _).alloc (by simp) _).mono hb0.size)
  refine ⟨w.heap.size + 1, [{ target := .collected w.heap.size, args := #[] }], W1, { target := .fn (.func gf) lb, args := #[.func (.yield (w.heap.size + 1)) #[] #[]] }, W1, gf,
    #[.func (.yield (w.heap.size + 1)) #[] #[]] ++ lb, W1, ?_, ?_, ?_, ?_, fun _ => h1, ?_⟩
  · rw [← hW1, hrec]; exact run_enterLoop_outer _ _ _ _ _
  · simp only [resolve, hg]
    simp [go_sem]
  · intro f' hf'; simp [Target.leads] at hf'; subst hf'; exact hFg
  · simp [invoke, go_sem, eg]
  · -- THE ITERATOR's CONTRACT, AT THE CALLER's INVARIANT WITH THE TWO FACTS OF BOOK-KEEPING BESIDE IT
    have hnw : ∀ {A B : World} {row : Option Nat}, (∀ r, row = some r → W1.heap.size ≤ r ∧ ∃ o : Obj, A.heap[r]? = some o ∧ o.isWalk = true) → (∀ r, row = some r → w.heap.size ≤ r ∧ ∃ o : Obj, A.heap[r]? = some o ∧ o.isCells = false) :=
      fun hr r e => by obtain ⟨hB, o, ho, hw⟩ := hr r e; exact ⟨by rw [← hW1] at hB; simp at hB; omega, o, ho, Obj.not_cells_of_walk hw⟩
    refine (hseq (w.heap.size + 1)
      (fun pre W => I pre W ∧ W.heap[w.heap.size + 1]? = some (.loop (rec .ready none)) ∧ W.heap[w.heap.size]? = some (.deferred (some [])))
      (fun pre W => ∃ c, Ix c pre W ∧ W.heap[w.heap.size + 1]? = some (.loop (rec .done (some c))) ∧ W.heap[w.heap.size]? = some (.deferred (some [])))
      W1 hb1
      (fun s A B row hs hg' hr => ⟨hI s A B row hs.1 hg' (hnw (B := B) hr), (grownBy_keeps hg' (fun r e => (hr r e).2) hs.2.1 rfl).trans hs.2.1, (grownBy_keeps hg' (fun r e => (hr r e).2) hs.2.2 rfl).trans hs.2.2⟩)
      (fun s A B row hs hg' hr => by
        obtain ⟨c, hc, hl, hk⟩ := hs
        exact ⟨c, hIx c s A B row hc hg' (hnw (B := B) hr), (grownBy_keeps hg' (fun r e => (hr r e).2) hl rfl).trans hl, (grownBy_keeps hg' (fun r e => (hr r e).2) hk rfl).trans hk⟩)
      ?_ ⟨hI1, hL1, hK1⟩).mono ?_
    · -- ONE ROUND
      rintro pre x W ⟨hi, hl, hk⟩ hRx hlen
      have hlt : w.heap.size + 1 < W.heap.size := (Array.getElem?_eq_some_iff.1 hl).1
      have hy := run_yield (P := P) (args := encs x) hl (by rw [hrec]; exact hps x)
      rw [hrec] at hy
      refine ⟨fn, _, assign, body, hy, roundIn_of_wpIn hfn (hassign _ pre x W _ hi hRx ?_)⟩
      clear hy
      intro a' Wa hkfa hkpa hia hax
      -- THE ASSIGN CODE MAY HAVE LAID BLOCKS (a loop variable that an inner function captures is boxed): the two blocks of book-keeping lie as they lay
      replace hl := hkfa.same _ _ (by omega) hl rfl
      replace hk := hkfa.same _ _ (Nat.le_refl _) hk rfl
      replace hlt : w.heap.size + 1 < Wa.heap.size := (Array.getElem?_eq_some_iff.1 hl).1
      replace hi := hia
      clear hia
      revert hkpa hkfa
      generalize W = Wb
      intro hkfa hkpa
      obtain ⟨W, rfl⟩ : ∃ W, W = Wa := ⟨_, rfl⟩
      refine ⟨_, run_beginRound hl (by rw [hrec]), ?_⟩
      have hl2 : (W.putObj (w.heap.size + 1) (.loop { rec .ready none with state := .busy })).heap[w.heap.size + 1]? = some (.loop { rec .ready none with state := .busy }) := World.putObj_heap_same hlt
      have hk2 : (W.putObj (w.heap.size + 1) (.loop { rec .ready none with state := .busy })).heap[w.heap.size]? = some (.deferred (some [])) := (World.putObj_heap_other (by omega)).trans hk
      have hw2 : Kp W (W.putObj (w.heap.size + 1) (.loop { rec .ready none with state := .busy })) := hKb _ _ _ _ (by omega) hl rfl rfl
      refine wpIn_mono (hbody _ pre x a' _ (by omega) ⟨_, hl2⟩ (hI.putObj _ hi (by omega) hl rfl) ((hAx x a').putObj (s := ()) _ hax (by omega) hl rfl) hlen) ?_
      have fin : ∀ (jump : Option Code) (W3 : World), KeepsFrom w.heap.size (W.putObj (w.heap.size + 1) (.loop { rec .ready none with state := .busy })) W3 →
          (Instr.endRound (w.heap.size + 1) jump).run P W3 = .ok (.bool jump.isNone) (W3.putObj (w.heap.size + 1) (.loop (rec (if jump.isNone then .ready else .done) jump))) ∧
          W3.heap[w.heap.size + 1]? = some (.loop { rec .ready none with state := .busy }) ∧
          (W3.putObj (w.heap.size + 1) (.loop (rec (if jump.isNone then .ready else .done) jump))).heap[w.heap.size + 1]? = some (.loop (rec (if jump.isNone then .ready else .done) jump)) ∧
          (W3.putObj (w.heap.size + 1) (.loop (rec (if jump.isNone then .ready else .done) jump))).heap[w.heap.size]? = some (.deferred (some [])) := fun jump W3 hk3 => by
        have hl3 := hk3.same _ _ (by omega) hl2 rfl
        have := run_endRound (P := P) jump hl3
        rw [hrec] at this ⊢
        exact ⟨this, by rw [hrec] at hl3; exact hl3, World.putObj_heap_same (Array.getElem?_eq_some_iff.1 hl3).1, (World.putObj_heap_other (by omega)).trans (hk3.same _ _ (Nat.le_refl _) hk2 rfl)⟩
      rintro e a3 W3 hp
      cases e with
      | normal =>
        obtain ⟨hk3, hkp3, hi3⟩ := hp
        obtain ⟨hr, hl3, hl4, hk4⟩ := fin none W3 hk3
        exact ⟨_, _, hr, .inl ⟨rfl, ⟨hI.putObj _ hi3 (by omega) hl3 rfl, hl4, hk4⟩, hKt hkpa (hKt (hKt hw2 hkp3) (hKb _ _ _ _ (by omega) hl3 rfl rfl))⟩⟩
      | ret =>
        obtain ⟨hk3, hi3⟩ := hp
        obtain ⟨hr, hl3, hl4, hk4⟩ := fin (some .ret) W3 hk3
        exact ⟨_, _, hr, .inr ⟨rfl, .ret, (hIx _).putObj _ hi3 (by omega) hl3 rfl, hl4, hk4⟩⟩
      | exit id =>
        obtain ⟨hk3, hi3⟩ := hp
        obtain ⟨hr, hl3, hl4, hk4⟩ := fin (some (.exit id)) W3 hk3
        exact ⟨_, _, hr, .inr ⟨rfl, .exit id, (hIx _).putObj _ hi3 (by omega) hl3 rfl, hl4, hk4⟩⟩
      | goto t =>
        obtain ⟨hk3, hi3⟩ := hp
        obtain ⟨hr, hl3, hl4, hk4⟩ := fin (some (.goto t)) W3 hk3
        exact ⟨_, _, hr, .inr ⟨rfl, .goto t, (hIx _).putObj _ hi3 (by omega) hl3 rfl, hl4, hk4⟩⟩
      | panic ch => exact hp.elim
      | outgrown => exact hp.elim
    · -- BEHIND THE ITERATOR
      rintro e W2 ⟨⟨v, rfl⟩, (⟨xs, hS, hi, hl, hk⟩ | ⟨pre, hSp, c, hi, hl, hk⟩)⟩
      · exact ⟨none, _, by have := run_endLoop (P := P) hl (by rw [hrec]; simp); rw [hrec] at this; exact this, hdone _ xs _ (Nat.le_refl _) hS (hI.putObj _ hi (by omega) hl rfl) ((World.putObj_heap_other (by omega)).trans hk)⟩
      · exact ⟨some c, _, by have := run_endLoop (P := P) hl (by rw [hrec]; simp); rw [hrec] at this; exact this, hstop _ c pre _ (Nat.le_refl _) hSp ((hIx c).putObj _ hi (by omega) hl rfl) ((World.putObj_heap_other (by omega)).trans hk)⟩
attribute [local go_sem ↓] Go.wp_at_zero Go.wp_at_succ
theorem step_appendQ {ops : Array Oper} {o : Oper} {a : Act} {w : World} {K : Act → World → Prop} {Q : Exit → Act → World → Prop} {E : Prop} (hgd : o.guard = none) (s x : Operand) (T : TypeId) (hT : Tryz.prog.underlying T = some (.slice 3))
    (ho : o.op = .call { callee := .builtin .append, args := #[s, x], argTypes := #[T, T] }) (base : Nat) (v : Value) (l : List Int) (k : Int) (hs : a.eval s = v) (h : QRow base w v l)
    (g0 c : Nat) (hx : a.eval x = .slice (some ⟨g0, 0, none⟩) 1 c) (hb : Blk w g0 [.int .i64 k] 3) (hk : InI k) (hlen : (l.length + 1) * 8 ≤ 140737488351232) (hbase : base ≤ w.heap.size)
    (hK : ∀ v' w', QRow base w' v' (l ++ [k]) → w.grownBy w' v.ownBlock → (v'.ownBlock = v.ownBlock ∨ v'.ownBlock = some w.heap.size) → K (a.put o.dst v') w') :
    if Region.wanted o (yielded ops a.tmps) = true then Oper.wp Tryz.prog o a w K Q else E := by
  have hw : Region.wanted o (yielded ops a.tmps) = true := by simp [Region.wanted, hgd]
  rw [if_pos hw]
  exact wp_appendQ s x T hT ho base v l k hs h g0 c hx hb hk hlen hbase hK
def zR : List Value := [.bool false, .slice none 0 0, .bool false, .int .i64 0, .slice none 0 0, .slice none 0 0]
structure PSt (r : GR) (m : List Int) (w : World) (k : Nat) (vh vb0 vw0 va vb : Value) (wx : World) : Prop where
  box : Blk wx w.heap.size [.bool r.choice, vh, .bool r.sum, .int .i64 r.bound, vb0, vw0] 55
  res : Blk wx (w.heap.size + 1) zR 55
  out : Blk wx (w.heap.size + 1 + 1) [.bool false, .slice none 0 0, .bool r.sum, .int .i64 (redAt m r k).bound, va, vb] 55
  body : QRow (w.heap.size + 1 + 1 + 1) wx va (fstL (posP r k))
  wts : QRow (w.heap.size + 1 + 1 + 1) wx vb (if r.sum then sndL (posP r k) else [])
  apart : ∀ i, va.ownBlock = some i → vb.ownBlock ≠ some i
  below : Below w.heap.size w wx
  size : w.heap.size + 1 + 1 + 1 ≤ wx.heap.size
def PRel (r : GR) (m : List Int) (w : World) (vh vb0 vw0 : Value) (i : Value) (wx : World) : Prop :=
  ∃ k va vb, k ≤ r.body.length ∧ i = .int .i64 (k : Nat) ∧ PSt r m w k vh vb0 vw0 va vb wx ∧ Hid (r.sum = false → negF m r k = false)
def PosPost (r : GR) (m : List Int) (w : World) (e : Ending) (w' : World) : Prop :=
  match redB m r with
  | none => e = .returned (.tuple #[.agg #[.bool false, .slice none 0 0, .bool false, .int .i64 0, .slice none 0 0, .slice none 0 0], .bool false]) ∧ Below w.heap.size w w'
  | some x => ∃ va vb, e = .returned (.tuple #[.agg #[.bool false, .slice none 0 0, .bool x.sum, .int .i64 x.bound, va, vb], .bool true]) ∧ QRow w.heap.size w' va x.body ∧ QRow w.heap.size w' vb x.w ∧ Below w.heap.size w w'
theorem negW_le {m : List Int} {r : GR} (hw : ∀ k, k < r.body.length → 0 ≤ ix r.w k ∧ ix r.w k ≤ 1048576) : ∀ k, k ≤ r.body.length → 0 ≤ negW m r k ∧ negW m r k ≤ 1048576 * k
  | 0, _ => by simp [negW]
  | k + 1, hk => by
    have ih := negW_le (m := m) hw k (by omega)
    have := hw k (by omega)
    unfold negW; split <;> omega
theorem PSt.on {r : GR} {m : List Int} {w wx wy : World} {k : Nat} {vh vb0 vw0 va vb : Value} (h : PSt r m w k vh vb0 vw0 va vb wx) (hb : Below wx.heap.size wx wy) : PSt r m w k vh vb0 vw0 va vb wy :=
  ⟨h.box.below hb, h.res.below hb, h.out.below hb, h.body.below hb, h.wts.below hb, h.apart, bon h.below hb, Nat.le_trans h.size hb.size⟩
theorem QRow.own_ne {base : Nat} {w : World} {v : Value} {l : List Int} (h : QRow base w v l) {i : Nat} (hi : i < base ∨ w.heap.size ≤ i) : v.ownBlock ≠ some i := fun e => by
  rcases h.2 with ⟨rfl, _⟩ | ⟨g, off, cap, cur, rfl, hbg, hg, _⟩
  · cases e
  · have := (Array.getElem?_eq_some_iff.1 hg).1
    simp only [Value.ownBlock, Option.some.injEq] at e; omega
theorem PSt.pushed {r : GR} {m : List Int} {w wx w4 : World} {k : Nat} {vh vb0 vw0 va vb : Value} {o : Obj} (h : PSt r m w k vh vb0 vw0 va vb wx)
    (hg : (wx.alloc o).grownBy w4 va.ownBlock) : Blk w4 w.heap.size [.bool r.choice, vh, .bool r.sum, .int .i64 r.bound, vb0, vw0] 55 ∧ Blk w4 (w.heap.size + 1) zR 55 ∧
      Blk w4 (w.heap.size + 1 + 1) [.bool false, .slice none 0 0, .bool r.sum, .int .i64 (redAt m r k).bound, va, vb] 55 ∧ QRow (w.heap.size + 1 + 1 + 1) w4 vb (if r.sum then sndL (posP r k) else []) ∧ Below w.heap.size w w4 ∧ w.heap.size + 1 + 1 + 1 ≤ w4.heap.size := by
  have hs := h.size
  have hgs := hg.size
  simp only [World.size_alloc] at hgs
  have same : ∀ b, b < w.heap.size + 1 + 1 + 1 → w4.heap[b]? = wx.heap[b]? := fun b hb =>
    (hg.block b (by simp; omega) (fun e => h.body.own_ne (.inl hb) e.symm)).trans (Below.heap_alloc _ _ _ (by omega))
  refine ⟨h.box.same (same _ (by omega)), h.res.same (same _ (by omega)), h.out.same (same _ (by omega)), h.wts.kept fun i hi hi2 hu => ?_, ⟨hg.os.trans h.below.os, hg.tape.trans h.below.tape, hg.output.trans h.below.output, by omega, fun i hi => (same i (by omega)).trans (h.below.block i hi)⟩, by omega⟩
  exact (hg.block i (by simp; omega) (fun e => h.apart i e.symm hu)).trans (Below.heap_alloc _ _ _ hi2)
theorem PSt.pushed2 {r : GR} {w wx w4 : World} {vh vb0 vw0 va vb : Value} {o : Obj} (h : Blk wx w.heap.size [.bool r.choice, vh, .bool r.sum, .int .i64 r.bound, vb0, vw0] 55 ∧ Blk wx (w.heap.size + 1) zR 55)
    {c : List Value} (ho : Blk wx (w.heap.size + 1 + 1) c 55) {la lb : List Int} (ha : QRow (w.heap.size + 1 + 1 + 1) wx va la) (hb : QRow (w.heap.size + 1 + 1 + 1) wx vb lb) (hap : ∀ i, va.ownBlock = some i → vb.ownBlock ≠ some i) (hbl : Below w.heap.size w wx) (hs : w.heap.size + 1 + 1 + 1 ≤ wx.heap.size)
    (hg : (wx.alloc o).grownBy w4 vb.ownBlock) : Blk w4 w.heap.size [.bool r.choice, vh, .bool r.sum, .int .i64 r.bound, vb0, vw0] 55 ∧ Blk w4 (w.heap.size + 1) zR 55 ∧
      Blk w4 (w.heap.size + 1 + 1) c 55 ∧ QRow (w.heap.size + 1 + 1 + 1) w4 va la ∧ Below w.heap.size w w4 ∧ w.heap.size + 1 + 1 + 1 ≤ w4.heap.size := by
  have hgs := hg.size
  simp only [World.size_alloc] at hgs
  have same : ∀ b, b < w.heap.size + 1 + 1 + 1 → w4.heap[b]? = wx.heap[b]? := fun b hb' =>
    (hg.block b (by simp; omega) (fun e => hb.own_ne (.inl hb') e.symm)).trans (Below.heap_alloc _ _ _ (by omega))
  refine ⟨h.1.same (same _ (by omega)), h.2.same (same _ (by omega)), ho.same (same _ (by omega)), ha.kept fun i hi hi2 hu => ?_, ⟨hg.os.trans hbl.os, hg.tape.trans hbl.tape, hg.output.trans hbl.output, by omega, fun i hi => (same i (by omega)).trans (hbl.block i hi)⟩, by omega⟩
  exact (hg.block i (by simp; omega) (fun e => hap i hu e.symm)).trans (Below.heap_alloc _ _ _ hi2)
theorem PSt.apart4 {r : GR} {m : List Int} {w wx : World} {k : Nat} {vh vb0 vw0 va vb v4 : Value} {o : Obj} (h : PSt r m w k vh vb0 vw0 va vb wx) (hl : v4.ownBlock = va.ownBlock ∨ v4.ownBlock = some (wx.alloc o).heap.size) : ∀ i, v4.ownBlock = some i → vb.ownBlock ≠ some i := fun i e => by
  rcases hl with hl | hl
  · exact h.apart i (hl ▸ e)
  · rw [hl] at e
    have := Option.some.inj e
    simp only [World.size_alloc] at this
    exact h.wts.own_ne (.inr (by omega))
theorem negF_next {m : List Int} {r : GR} {k : Nat} (h : r.sum = false → negF m r k = false) (hk : ¬ (ix r.body k < 0 ∧ -(ix r.body k) ∈ m)) : r.sum = false → negF m r (k + 1) = false := fun hs => by
  unfold negF
  refine anyR_false fun j hj => ?_
  by_cases e : j = k
  · subst e
    rw [Bool.and_eq_false_iff, decide_eq_false_iff_not, decide_eq_false_iff_not]
    by_cases h1 : ix r.body j < 0
    · exact .inr fun h2 => hk ⟨h1, h2⟩
    · exact .inl h1
  · have := List.any_eq_false.1 (h hs) j (List.mem_range.2 (by omega))
    simpa using this
theorem red_end0 {m : List Int} {r : GR} (hs : r.sum = false) (h : r.sum = false → negF m r r.body.length = false) : redB m r = some (redAt m r r.body.length) := by
  unfold redB
  rw [if_neg (fun hh => by rw [h hs] at hh; exact Bool.noConfusion hh.2), if_neg (fun hh => by rw [hs] at hh; exact Bool.noConfusion hh.1)]
theorem red_end1 {m : List Int} {r : GR} (hs : r.sum = true) : redB m r = if r.bound - negW m r r.body.length ≤ 0 then some emptyR else some (redAt m r r.body.length) := by
  unfold redB
  rw [if_neg (fun hh => by rw [hs] at hh; exact Bool.noConfusion hh.1)]
  by_cases h : r.bound - negW m r r.body.length ≤ 0
  · rw [if_pos h, if_pos ⟨hs, h⟩]
  · rw [if_neg h, if_neg (fun hh => h hh.2)]
theorem pos_skip {r : GR} {k : Nat} (h : ¬ 0 < ix r.body k) : posP r (k + 1) = posP r k := by
  rw [posP, if_neg h]
theorem pos_take {r : GR} {k : Nat} (h : 0 < ix r.body k) : posP r (k + 1) = posP r k ++ [(ix r.body k, ix r.w k)] := by
  rw [posP, if_pos h]
theorem QRow.setFar {base : Nat} {w : World} {v : Value} {l : List Int} (h : QRow base w v l) {b : Nat} (o : Nat) (u : Value) (hb : b < base) : QRow base (w.setCell ⟨b, o, none⟩ u) v l :=
  h.kept fun i hi _ _ => Below.heap_setCell _ _ _ _ (by show i ≠ b; omega)
end Go.Proofs.YtjodocheiejkeaaGreatDoor
