/- My texts Ex2, Ex13, Bld, PbS, Aw0, Lay, merged. -/
import Derived.Test.YtfajkmmmmmfhiaaGreatDoorM12
import Derived.Test.YtfajkmmmmmfhiaaGreatDoorM07
import Derived.Test.YtfajkmmmmmfhiaaGreatDoorM06
import Derived.Test.YtfajkmmmmmfhiaaGreatDoorM05
import Derived.Test.YtfajkmmmmmfhiaaGreatDoorM04
import Derived.Test.YtfajkmmmmmfhiaaGreatDoorM03
import Derived.Test.YtfajkmmmmmfhiaaGreatDoorM00
import Derived.Test.YtfajkmmmmmfhiaaGreatDoorProg
import Derived.WalkKit
import Derived.Lib.Hide
import Derived.Deep.QuietTactic
import Derived.BigQuiet
import Derived.WalkSpells
import Derived.Lib.SliceRun
import Derived.MapKept
import Derived.Maps.OwnSet
import Derived.Maps.OwnOps
import Derived.Test.YtfajkmmmmmfhiaaGreatDoorM02
import Derived.Test.YtfajkmmmmmfhiaaGreatDoorM01
import Derived.Deep.AppendLies
import Derived.Lib.Bytealg
import Derived.Deep.DeepCutAuto
import Derived.Laws.EntriesVeiled
import Derived.Deep.RegionWith
import Derived.Deep.OwnRows
import Derived.RangeFuncNested
import Derived.RangeFuncBound
import Derived.RangeFuncCalls
import Derived.RangeFuncLeaves
import Derived.OwnWalkIn
import Derived.TacticsInMore
import Derived.LoopNIn
import Derived.LoopIn
import Derived.Stop.RegionWithIn
import Derived.Shelf.Abstract
import Derived.Deep.LoopGhost
import Derived.Deep.DrawnRows
import Derived.Test.YtfajkmmmmmfhiaaGreatDoorM09
import Derived.Test.YtfajkmmmmmfhiaaGreatDoorM10
import Derived.Deep.AppendSrc
import Derived.Sort.QuietThIn
import Derived.Maps.RangeWalk
import Derived.Lib.SlicesCompact
import Derived.Shelf.Sort.Plain
import Derived.Shelf.Slices.CompactI
import Derived.Shelf.Slices.In.SortNone
import Derived.Shelf.Strconv.Itoa3
import Derived.Shelf.Strings.BuilderK
import Derived.Shelf.Slices.SearchI
import Derived.Shelf.Slices.Empties
import Derived.Sort.OwnSortedInts
import Derived.RangeFuncBox
import Derived.Maps.OwnIn
import Derived.Lib.RowBridge
import Derived.Test.YtfajkmmmmmfhiaaGreatDoorM11
import Derived.Test.YtfajkmmmmmfhiaaGreatDoorM08

namespace Go.Proofs.YtfajkmmmmmfhiaaGreatDoor
open Go.RowKit
theorem derT_mono {p : GP} {T T' m : List Int} (hv : validE p = 0) (h : ∀ x ∈ T, x ∈ T') {i : Nat} (hi : i < p.rules.length) {a : Int} (hd : derT T m (ixR p.rules i) a = true) : derT T' m (ixR p.rules i) a = true := by
  unfold derT at hd ⊢
  simp only [Bool.and_eq_true] at hd ⊢
  exact ⟨hd.1, hd.2.1, avT_mono h (bodyW_valid hv i hi) hd.2.2⟩
structure ValX (p : GP) (m : List Int) (x : XP) : Prop where
  nod : (atomsY x.whys).Nodup
  part : ∀ a, a ∈ m ↔ a ∈ x.rest ∨ a ∈ atomsY x.whys
  lev : ∀ y ∈ x.whys, 1 ≤ y.level
  der : ∀ y ∈ x.whys, ∃ i : Nat, y.rule = i ∧ i < p.rules.length ∧ derT (lowY x.whys y.level) m (ixR p.rules i) y.atom = true
theorem chk_val {p : GP} {m : List Int} {x : XP} (hv : validE p = 0) (hm : setQ p.n m = true) (h : chkX p m x = true) : ValX p m x := by
  have hn := (validP hv).n
  have hms := setQ_sorted hm
  have hmn : m.Nodup := hms.imp fun h => Int.ne_of_lt h
  have hmr : ∀ x ∈ m, 1 ≤ x ∧ x ≤ (p.n.toNat : Int) := fun x hx => by have := setQ_rng hm hx; omega
  unfold chkX at h
  simp only [Bool.and_eq_true, decide_eq_true_eq] at h
  obtain ⟨h1, h2, h3, h4, h5⟩ := h
  have hnd : (x.rest ++ atomsY x.whys).Nodup := h2.nodup_iff.2 hmn
  rw [List.nodup_append] at hnd
  obtain ⟨n1, n2, n3⟩ := hnd
  have hs2 : ∀ y ∈ x.whys, y.atom ∈ m := fun y hy => h2.subset (List.mem_append.2 (.inr (List.mem_map.2 ⟨y, hy, rfl⟩)))
  have hr : ∀ i, i < x.whys.length → _ := fun i hi => by
    have := allR_get h1 i hi
    unfold rngY at this
    simp only [Bool.and_eq_true, decide_eq_true_eq] at this
    exact this
  have hlv : ∀ y ∈ x.whys, 1 ≤ y.level := fun y hy => by
    obtain ⟨i, hi, rfl⟩ := mem_ixY hy
    exact (hr i hi).2.2.2.2
  refine ⟨n2, fun a => by rw [← h2.mem_iff, List.mem_append], hlv, fun y hy => ?_⟩
  obtain ⟨i, hi, rfl⟩ := mem_ixY hy
  have r := hr i hi
  have r5 := allR_get h5 i hi
  rw [derT_congr (lvT_low hmr n2 hs2 hlv)] at r5
  exact ⟨(ixY x.whys i).rule.toNat, by omega, by omega, r5⟩
theorem firR_some {p : GP} {m T : List Int} {a : Int} {i : Nat} (h : firR p m T a = some i) : i < p.rules.length ∧ derT T m (ixR p.rules i) a = true := by
  unfold firR at h
  have h1 := List.mem_of_find?_eq_some h
  have h2 := List.find?_some h
  exact ⟨List.mem_range.1 h1, h2⟩
theorem firR_none {p : GP} {m T : List Int} {a : Int} (h : firR p m T a = none) {i : Nat} (hi : i < p.rules.length) : derT T m (ixR p.rules i) a = false := by
  unfold firR at h
  have := List.find?_eq_none.1 h i (List.mem_range.2 hi)
  simpa using this
theorem atoms_app (a b : List WY) : atomsY (a ++ b) = atomsY a ++ atomsY b := by simp [atomsY]
theorem exrTo_lev (p : GP) (m : List Int) : ∀ k, ∀ y ∈ exrTo p m k, 1 ≤ y.level ∧ y.level ≤ k
  | 0, y, h => by cases h
  | k + 1, y, h => by
    unfold exrTo at h
    rcases List.mem_append.1 h with h | h
    · have := exrTo_lev p m k y h; omega
    · have := (nowX_mem h).2.1; omega
theorem exrTo_der (p : GP) (m : List Int) : ∀ k, ∀ y ∈ exrTo p m k, ∃ j i : Nat, j < k ∧ y.level = (j : Int) + 1 ∧ y.rule = i ∧ firR p m (atomsY (exrTo p m j)) y.atom = some i
  | 0, y, h => by cases h
  | k + 1, y, h => by
    unfold exrTo at h
    rcases List.mem_append.1 h with h | h
    · obtain ⟨j, i, h1, h2⟩ := exrTo_der p m k y h
      exact ⟨j, i, by omega, h2⟩
    · obtain ⟨-, h2, i, h3, h4⟩ := nowX_mem h
      exact ⟨k, i, by omega, h2, h4, h3⟩
theorem exrTo_pre (p : GP) (m : List Int) {j : Nat} : ∀ d, ∀ y, y ∈ exrTo p m (j + d) → (y ∈ exrTo p m j ∨ (j : Int) < y.level)
  | 0, y, h => .inl h
  | d + 1, y, h => by
    rw [show j + (d + 1) = (j + d) + 1 by omega] at h
    unfold exrTo at h
    rcases List.mem_append.1 h with h | h
    · exact exrTo_pre p m d y h
    · have := (nowX_mem h).2.1; right; omega
theorem exrTo_mono (p : GP) (m : List Int) {j : Nat} : ∀ d, ∀ y ∈ exrTo p m j, y ∈ exrTo p m (j + d)
  | 0, y, h => h
  | d + 1, y, h => by
    rw [show j + (d + 1) = (j + d) + 1 by omega]
    unfold exrTo
    exact List.mem_append.2 (.inl (exrTo_mono p m d y h))
theorem exrTo_low (p : GP) (m : List Int) {j K : Nat} (h : j ≤ K) (x : Int) : x ∈ lowY (exrTo p m K) ((j : Int) + 1) ↔ x ∈ atomsY (exrTo p m j) := by
  obtain ⟨d, rfl⟩ : ∃ d, K = j + d := ⟨K - j, by omega⟩
  unfold lowY atomsY
  simp only [List.mem_map, List.mem_filter, decide_eq_true_eq]
  constructor
  · rintro ⟨y, ⟨h1, h2⟩, rfl⟩
    rcases exrTo_pre p m d y h1 with h3 | h3
    · exact ⟨y, h3, rfl⟩
    · omega
  · rintro ⟨y, h1, rfl⟩
    have := exrTo_lev p m j y h1
    exact ⟨y, ⟨exrTo_mono p m d y h1, by omega⟩, rfl⟩
theorem exrTo_nod (p : GP) {m : List Int} (hm : m.Nodup) : ∀ k, (atomsY (exrTo p m k)).Nodup
  | 0 => List.nodup_nil
  | k + 1 => by
    have ih := exrTo_nod p hm k
    have hsub := nowX_atoms p m (atomsY (exrTo p m k)) (k + 1) (leftX m (exrTo p m k))
    unfold exrTo
    rw [atoms_app, List.nodup_append]
    refine ⟨ih, (hm.sublist List.filter_sublist).sublist hsub, fun a ha b hb e => ?_⟩
    subst e
    have := (List.mem_filter.1 (hsub.subset hb)).2
    exact (of_decide_eq_true this) ha
theorem nowX_sorted {p : GP} {m T : List Int} {k : Int} {l : List Int} (h : l.Pairwise (· < ·)) : (nowX p m T k l).Pairwise (fun a b => a.atom < b.atom) := by
  have h2 := h.sublist (nowX_atoms p m T k l)
  unfold atomsY at h2
  exact List.pairwise_map.1 h2
theorem exrTo_ord (p : GP) {m : List Int} (hm : m.Pairwise (· < ·)) : ∀ k, (exrTo p m k).Pairwise (fun a b => a.level < b.level ∨ (a.level = b.level ∧ a.atom < b.atom))
  | 0 => List.Pairwise.nil
  | k + 1 => by
    unfold exrTo
    refine List.pairwise_append.2 ⟨exrTo_ord p hm k, ?_, fun a ha b hb => ?_⟩
    · have h1 := nowX_sorted (p := p) (m := m) (T := atomsY (exrTo p m k)) (k := (k : Int) + 1) (hm.filter fun a => decide (a ∉ atomsY (exrTo p m k)))
      refine h1.imp_of_mem fun {a b} ha hb h => .inr ⟨?_, h⟩
      rw [(nowX_mem ha).2.1, (nowX_mem hb).2.1]
    · have := exrTo_lev p m k a ha
      have := (nowX_mem hb).2.1
      left; omega
theorem expl_valid {p : GP} {m : List Int} (hv : validE p = 0) (hm : setQ p.n m = true) : chkX p m (explX p m) = true := by
  rw [chk_ref _ hv hm, explX_ref]
  have hms := setQ_sorted hm
  have hmn : m.Nodup := hms.imp fun h => Int.ne_of_lt h
  generalize hK : m.length = K
  have hsub := exrTo_sub p m K
  have hnod := exrTo_nod p hmn K
  unfold chkR
  simp only [Bool.and_eq_true, decide_eq_true_eq]
  refine ⟨setQ_of (hms.filter _) (fun x hx => setQ_rng hm (List.mem_filter.1 hx).1), ?_, ?_, ?_⟩
  · have hperm : (leftX m (exrTo p m K) ++ doneX m (exrTo p m K)).Perm m := by
      refine List.perm_append_comm.trans ?_
      unfold leftX doneX
      have := List.filter_append_perm (fun a => decide (a ∈ atomsY (exrTo p m K))) m
      simpa using this
    have hd : (doneX m (exrTo p m K)).Perm (atomsY (exrTo p m K)) := by
      refine sub_perm (hmn.sublist List.filter_sublist) (fun x hx => (doneX_mem hsub x).1 hx) ?_
      exact sub_len hnod fun x hx => (doneX_mem hsub x).2 hx
    have h1 := hperm.length_eq
    have h2 := hd.length_eq
    rw [List.length_append] at h1
    unfold atomsY at h2
    rw [List.length_map] at h2
    omega
  · exact allR_true fun i hi => decide_eq_true (List.mem_filter.1 (ix_mem hi)).1
  · refine allR_true fun i hi => ?_
    have hy := ixY_mem hi
    obtain ⟨j, q, h1, h2, h3, h4⟩ := exrTo_der p m K _ hy
    obtain ⟨h5, h6⟩ := firR_some h4
    have hl := exrTo_lev p m K _ hy
    unfold chkAt
    dsimp only at hi ⊢
    simp only [Bool.and_eq_true, decide_eq_true_eq, Bool.not_eq_true', decide_eq_false_iff_not, Bool.or_eq_true, beq_iff_eq]
    refine ⟨hsub _ hy, fun hc => ?_, hl.1, by omega, by omega, ?_, ?_, ?_⟩
    · have := (List.mem_filter.1 hc).2
      exact (of_decide_eq_true this) (List.mem_map.2 ⟨_, hy, rfl⟩)
    · by_cases h0 : i = 0
      · exact .inl h0
      · refine .inr ?_
        have := List.pairwise_iff_getElem.1 (exrTo_ord p hms K) (i - 1) i (by omega) hi (by omega)
        rw [← ixY_get (show i - 1 < _ by omega), ← ixY_get hi] at this
        simp only [Bool.or_eq_false_iff, Bool.and_eq_false_iff, decide_eq_false_iff_not]
        omega
    · refine allR_true fun k hk => ?_
      by_cases e : k = i
      · simp [e]
      · have : (ixY (exrTo p m K) k).atom ≠ (ixY (exrTo p m K) i).atom := fun e2 => e (by
          have hk2 : k < (atomsY (exrTo p m K)).length := by simpa [atomsY] using hk
          have hi2 : i < (atomsY (exrTo p m K)).length := by simpa [atomsY] using hi
          refine (List.getElem_inj (h₀ := hk2) (h₁ := hi2) hnod).1 ?_
          simp only [atomsY, List.getElem_map, ← ixY_get hk, ← ixY_get hi]
          exact e2)
        simp [this]
    · rw [h2, h3, derT_congr (exrTo_low p m (by omega)), Int.toNat_natCast]
      exact h6
theorem exrTo_end (p : GP) {m : List Int} (hm : m.Nodup) : ∀ d, exrTo p m (m.length + d) = exrTo p m m.length := by
  have : ∃ k, k ≤ m.length ∧ nowX p m (atomsY (exrTo p m k)) (k + 1) (leftX m (exrTo p m k)) = [] := by
    refine Classical.byContradiction fun hno => ?_
    have key : ∀ k, k ≤ m.length + 1 → k ≤ (exrTo p m k).length := by
      intro k
      induction k with
      | zero => intro _; omega
      | succ k ih =>
        intro hk
        have h1 := ih (by omega)
        have h2 : nowX p m (atomsY (exrTo p m k)) (k + 1) (leftX m (exrTo p m k)) ≠ [] := fun e => hno ⟨k, by omega, e⟩
        unfold exrTo
        rw [List.length_append]
        have := List.length_pos_iff.2 h2
        omega
    have h1 := key (m.length + 1) (Nat.le_refl _)
    have h2 : (atomsY (exrTo p m (m.length + 1))).length ≤ m.length := sub_len (exrTo_nod p hm _) fun x hx => by
      obtain ⟨y, hy, rfl⟩ := List.mem_map.1 hx
      exact exrTo_sub p m _ y hy
    unfold atomsY at h2
    rw [List.length_map] at h2
    omega
  obtain ⟨k, hk, he⟩ := this
  intro d
  obtain ⟨c, hc⟩ : ∃ c, m.length = k + c := ⟨m.length - k, by omega⟩
  rw [hc, Nat.add_assoc, exrTo_stay he, exrTo_stay he]
theorem val_least {p : GP} {m : List Int} {x : XP} (hv : validE p = 0) (_hm : m.Nodup) (h : ValX p m x) : ∀ n : Nat, ∀ y ∈ x.whys, y.level.toNat ≤ n → y.atom ∈ atomsY (exrTo p m y.level.toNat) := by
  intro n
  induction n with
  | zero => intro y hy hl; have := h.lev y hy; omega
  | succ n ih =>
    intro y hy hl
    have hl1 := h.lev y hy
    obtain ⟨i, -, hi, hd⟩ := h.der y hy
    obtain ⟨k, hk⟩ : ∃ k, y.level.toNat = k + 1 := ⟨y.level.toNat - 1, by omega⟩
    have hd2 := derT_mono (T' := atomsY (exrTo p m k)) hv (fun z hz => by
      unfold lowY at hz
      obtain ⟨z2, hz2, rfl⟩ := List.mem_map.1 hz
      obtain ⟨hz3, hz4⟩ := List.mem_filter.1 hz2
      have h5 := of_decide_eq_true hz4
      have := h.lev z2 hz3
      obtain ⟨y2, hy2, e2⟩ := List.mem_map.1 (ih z2 hz3 (by omega))
      obtain ⟨d, hd⟩ : ∃ d, k = z2.level.toNat + d := ⟨k - z2.level.toNat, by omega⟩
      rw [hd]
      exact List.mem_map.2 ⟨y2, exrTo_mono p m d y2 hy2, e2⟩) hi hd
    rw [hk]
    by_cases hin : y.atom ∈ atomsY (exrTo p m k)
    · obtain ⟨y2, hy2, e2⟩ := List.mem_map.1 hin
      exact List.mem_map.2 ⟨y2, exrTo_mono p m 1 y2 hy2, e2⟩
    · unfold exrTo
      rw [atoms_app]
      refine List.mem_append.2 (.inr ?_)
      cases hf : firR p m (atomsY (exrTo p m k)) y.atom with
      | none => rw [firR_none hf hi] at hd2; cases hd2
      | some q =>
        refine List.mem_map.2 ⟨⟨y.atom, q, k + 1⟩, ?_, rfl⟩
        unfold nowX
        refine List.mem_filterMap.2 ⟨y.atom, List.mem_filter.2 ⟨(h.part _).2 (.inr (List.mem_map.2 ⟨y, hy, rfl⟩)), decide_eq_true hin⟩, ?_⟩
        rw [hf]; rfl
theorem expl_least {p : GP} {m : List Int} {x : XP} (hv : validE p = 0) (hm : m.Nodup) (h : ValX p m x) {y : WY} (hy : y ∈ x.whys) : ∃ z ∈ (explX p m).whys, z.atom = y.atom ∧ z.level ≤ y.level := by
  have hl := h.lev y hy
  have h1 := val_least hv hm h _ y hy (Nat.le_refl _)
  rw [explX_ref]
  obtain ⟨z, hz, e⟩ := List.mem_map.1 h1
  have := exrTo_lev p m _ z hz
  refine ⟨z, ?_, e, by omega⟩
  by_cases hle : y.level.toNat ≤ m.length
  · obtain ⟨d, hd⟩ : ∃ d, m.length = y.level.toNat + d := ⟨m.length - y.level.toNat, by omega⟩
    dsimp only
    rw [hd]
    exact exrTo_mono p m d z hz
  · obtain ⟨d, hd⟩ : ∃ d, y.level.toNat = m.length + d := ⟨y.level.toNat - m.length, by omega⟩
    rw [hd, exrTo_end p hm] at hz
    exact hz
inductive SupR (p : GP) (x : XP) (a : Int) : Int → Prop
  | base : SupR p x a a
  | step {y z : WY} : y ∈ x.whys → z ∈ x.whys → SupR p x a y.atom → z.atom ∈ (ixR p.rules y.rule.toNat).body → z.level < y.level → SupR p x a z.atom
def whyV (y : WY) : Value := .agg #[.int .i64 y.atom, .int .i64 y.rule, .int .i64 y.level]
def whyG (ws : List WY) : Int → Option Value := fun b => ws.foldl (fun o y => if y.atom = b then some (whyV y) else o) none
theorem whyG_snoc (ws : List WY) (y : WY) : whyG (ws ++ [y]) = upd (whyG ws) y.atom (some (whyV y)) := by
  funext b
  unfold whyG upd
  rw [List.foldl_append]
  simp only [List.foldl_cons, List.foldl_nil]
  by_cases h : b = y.atom
  · rw [if_pos h, if_pos h.symm]
  · rw [if_neg h, if_neg (fun e => h e.symm)]
theorem whyG_fold (b : Int) : ∀ (ws : List WY) (o : Option Value), (b ∉ atomsY ws ∧ ws.foldl (fun o y => if y.atom = b then some (whyV y) else o) o = o) ∨ ∃ y ∈ ws, y.atom = b ∧ ws.foldl (fun o y => if y.atom = b then some (whyV y) else o) o = some (whyV y)
  | [], o => .inl ⟨by simp [atomsY], rfl⟩
  | z :: ws, o => by
    rw [List.foldl_cons]
    rcases whyG_fold b ws (if z.atom = b then some (whyV z) else o) with ⟨h1, h2⟩ | ⟨y, h1, h2, h3⟩
    · by_cases e : z.atom = b
      · exact .inr ⟨z, by simp, e, by rw [h2, if_pos e]⟩
      · refine .inl ⟨?_, by rw [h2, if_neg e]⟩
        unfold atomsY at h1 ⊢
        rw [List.map_cons, List.mem_cons]
        rintro (h | h)
        · exact e h.symm
        · exact h1 h
    · exact .inr ⟨y, by simp [h1], h2, h3⟩
theorem whyG_none {ws : List WY} {b : Int} (h : b ∉ atomsY ws) : whyG ws b = none := by
  rcases whyG_fold b ws none with ⟨-, h2⟩ | ⟨y, h1, h2, -⟩
  · exact h2
  · exact absurd (List.mem_map.2 ⟨y, h1, h2⟩) h
theorem whyG_some {ws : List WY} {b : Int} (h : b ∈ atomsY ws) : ∃ y ∈ ws, y.atom = b ∧ whyG ws b = some (whyV y) := by
  rcases whyG_fold b ws none with ⟨h1, -⟩ | h2
  · exact absurd h h1
  · exact h2
theorem why_same {ws : List WY} (hn : (atomsY ws).Nodup) {y z : WY} (hy : y ∈ ws) (hz : z ∈ ws) (e : y.atom = z.atom) : y = z := by
  obtain ⟨i, hi, rfl⟩ := mem_ixY hy
  obtain ⟨j, hj, rfl⟩ := mem_ixY hz
  have hi2 : i < (atomsY ws).length := by simpa [atomsY] using hi
  have hj2 : j < (atomsY ws).length := by simpa [atomsY] using hj
  have : i = j := (List.getElem_inj (h₀ := hi2) (h₁ := hj2) hn).1 (by simp only [atomsY, List.getElem_map, ← ixY_get hi, ← ixY_get hj]; exact e)
  rw [this]
structure SupL (p : GP) (x : XP) (a : Int) (L : List Int) (n : Nat) : Prop where
  nod : L.Nodup
  reach : ∀ b ∈ L, SupR p x a b
  sub : ∀ b ∈ L, b ∈ atomsY x.whys
  has : a ∈ L
  done : ∀ i, i < n → i < L.length → ∀ y ∈ x.whys, y.atom = ix L i → ∀ z ∈ x.whys, z.atom ∈ (ixR p.rules y.rule.toNat).body → z.level < y.level → z.atom ∈ L
theorem SupL.len {p : GP} {x : XP} {a : Int} {L : List Int} {n : Nat} (h : SupL p x a L n) : L.length ≤ x.whys.length := by
  have := sub_len h.nod h.sub
  unfold atomsY at this
  rwa [List.length_map] at this
theorem SupL.start {p : GP} {x : XP} {a : Int} (h : a ∈ atomsY x.whys) : SupL p x a [a] 0 :=
  ⟨by simp, fun b hb => by rw [List.mem_singleton.1 hb]; exact .base, fun b hb => by rw [List.mem_singleton.1 hb]; exact h, by simp, fun i hi => absurd hi (Nat.not_lt_zero _)⟩
theorem SupL.add {p : GP} {x : XP} {a : Int} {L : List Int} {n : Nat} (h : SupL p x a L n) (hn : n < L.length) {y z : WY} (hy : y ∈ x.whys) (hya : y.atom = ix L n) (hz : z ∈ x.whys) (hb : z.atom ∈ (ixR p.rules y.rule.toNat).body) (hl : z.level < y.level) (hnot : z.atom ∉ L) : SupL p x a (L ++ [z.atom]) n := by
  refine ⟨?_, fun b hb' => ?_, fun b hb' => ?_, by simp [h.has], fun i hi hi2 y' hy' e z' hz' h1 h2 => ?_⟩
  · rw [List.nodup_append]
    exact ⟨h.nod, by simp, fun a ha b hb' e => hnot (by rw [List.mem_singleton.1 hb'] at e; rw [← e]; exact ha)⟩
  · rcases List.mem_append.1 hb' with hb' | hb'
    · exact h.reach b hb'
    · rw [List.mem_singleton.1 hb']
      exact .step hy hz (by rw [hya]; exact h.reach _ (ix_mem hn)) hb hl
  · rcases List.mem_append.1 hb' with hb' | hb'
    · exact h.sub b hb'
    · rw [List.mem_singleton.1 hb']; exact List.mem_map.2 ⟨z, hz, rfl⟩
  · have hi3 : i < L.length := by omega
    have e2 : ix (L ++ [z.atom]) i = ix L i := by rw [ix_app, if_pos hi3]
    rw [e2] at e
    exact List.mem_append.2 (.inl (h.done i hi hi3 y' hy' e z' hz' h1 h2))
theorem SupL.all {p : GP} {x : XP} {a : Int} {L : List Int} (h : SupL p x a L L.length) (b : Int) : b ∈ L ↔ SupR p x a b := by
  refine ⟨h.reach b, fun hs => ?_⟩
  induction hs with
  | base => exact h.has
  | step hy hz hs hb hl ih =>
    obtain ⟨i, hi, e⟩ := mem_ix.1 ih
    exact h.done i hi hi _ hy e.symm _ hz hb hl
def FolB (x : XP) (y : WY) (B : List Int) (j : Nat) (L : List Int) : Prop := ∀ c ∈ B.take j, ∀ z ∈ x.whys, z.atom = c → z.level < y.level → c ∈ L
theorem SupL.turn {p : GP} {x : XP} {a : Int} {L : List Int} {n : Nat} (hn : (atomsY x.whys).Nodup) (h : SupL p x a L n) {y : WY} (hy : y ∈ x.whys) (hya : y.atom = ix L n) (hf : FolB x y (ixR p.rules y.rule.toNat).body (ixR p.rules y.rule.toNat).body.length L) : SupL p x a L (n + 1) := by
  refine ⟨h.nod, h.reach, h.sub, h.has, fun i hi hi2 y' hy' e z hz h1 h2 => ?_⟩
  by_cases hin : i = n
  · subst hin
    have : y' = y := why_same hn hy' hy (e.trans hya.symm)
    subst this
    exact hf z.atom (by rw [List.take_length]; exact h1) z hz rfl h2
  · exact h.done i (by omega) hi2 y' hy' e z hz h1 h2
def SuPost (p : GP) (m : List Int) (x : XP) (a : Int) (B : Nat) (w : World) (e : Ending) (w' : World) : Prop :=
  ∃ vo out E, e = .returned (.tuple #[vo, .int .i64 E]) ∧ QRow B w' vo out ∧ Below w.heap.size w w' ∧
    ((xE p m ≠ 0 ∧ E = xE p m ∧ out = []) ∨ (xE p m = 0 ∧ chkX p m x = false ∧ E = 2 ∧ out = []) ∨ (xE p m = 0 ∧ chkX p m x = true ∧ a ∉ atomsY x.whys ∧ E = 6 ∧ out = []) ∨
     (xE p m = 0 ∧ chkX p m x = true ∧ a ∈ atomsY x.whys ∧ E = 0 ∧ out.Pairwise (· < ·) ∧ ∀ b, b ∈ out ↔ SupR p x a b))
structure SuSt (w : World) (p : GP) (x : XP) (n vn vs vr vm vw vq : Value) (W : World) : Prop where
  pbx : Blk W w.heap.size [n, vn, vs, vr, vm] 27
  xbx : Blk W (w.heap.size + 1) [vw, vq] 30
  rul : RulesIs W vr p.rules
  whs : WhysIs W vw x.whys
  below : Below w.heap.size w W
theorem SuSt.on {w W W' : World} {p : GP} {x : XP} {n vn vs vr vm vw vq : Value} (h : SuSt w p x n vn vs vr vm vw vq W) (hb : Below W.heap.size W W') : SuSt w p x n vn vs vr vm vw vq W' :=
  ⟨h.pbx.below hb, h.xbx.below hb, h.rul.below hb, h.whs.below hb, bon h.below hb⟩
def Su1Rel (x : XP) (W1 : World) (i : Value) (wx : World) : Prop :=
  ∃ j : Nat, j ≤ x.whys.length ∧ i = .int .i64 j ∧ MapIs (Value.int .i64) wx W1.heap.size (whyG (x.whys.take j)) ∧ Below W1.heap.size W1 wx
def Su2Rel (p : GP) (x : XP) (a : Int) (_mb : Nat) (W2 : World) (vo i : Value) (wx : World) : Prop :=
  ∃ (n : Nat) (L : List Int), i = .int .i64 n ∧ n ≤ L.length ∧ SupL p x a L n ∧ OwnL W2.heap.size wx vo L ∧ Below W2.heap.size W2 wx
def Su3Rel (p : GP) (x : XP) (a : Int) (n : Nat) (y : WY) (B : List Int) (wb : Nat) (cs : List Value) (W2 : World) (vo i : Value) (wx : World) : Prop :=
  ∃ (j : Nat) (L : List Int), i = .int .i64 j ∧ j ≤ B.length ∧ n < L.length ∧ y.atom = ix L n ∧ SupL p x a L n ∧ FolB x y B j L ∧ OwnL W2.heap.size wx vo L ∧ Below W2.heap.size W2 wx ∧ Blk wx wb cs 49
theorem OwnL.far {B : Nat} {w : World} {v : Value} {L : List Int} (h : OwnL B w v L) {b : Nat} {c : List Value} {T : TypeId} (hb : Blk w b c T) (hT : T ≠ 3) : v.ownBlock ≠ some b := fun e => by
  rcases h.1.2 with ⟨rfl, _⟩ | ⟨g, cap, cur, rfl, hg, hgg, _⟩
  · cases e
  · have : g = b := by simpa [Value.ownBlock] using e
    subst this
    unfold Blk at hb
    rw [hb] at hgg
    injection hgg with hgg
    injection hgg with _ h2 _
    exact hT h2
theorem belowO {B : Nat} {v : Value} {L : List Int} {W w w' : World} (h : Below B W w) (hm : OwnL B w v L) (hg : w.grownBy w' v.ownBlock) (hB : B ≤ w.heap.size) : Below B W w' :=
  h.trans ⟨hg.os, hg.tape, hg.output, hg.size, fun i hi => hg.block i (by omega) fun e => by have := (hm.lt e.symm).1; omega⟩
theorem OwnL.one (w : World) {z : Int} (hz : InI z) : OwnL w.heap.size (w.alloc (.cells #[.int .i64 z] 3)) (.slice (some ⟨w.heap.size, 0, none⟩) 1 1) [z] := by
  refine ⟨⟨by simp, .inr ⟨w.heap.size, 1, _, rfl, Nat.le_refl _, heap_alloc_new w _, by simp, by unfold maxLen; omega, by simp, by simp⟩⟩, fitI fun y hy => (List.mem_singleton.1 hy) ▸ hz, by simp⟩
theorem OwnL.qrow {B : Nat} {w : World} {v : Value} {L : List Int} (h : OwnL B w v L) (_h8 : L.length ≤ 1000000) : QRow B w v L := by
  refine ⟨h.2.1, ?_⟩
  rcases h.1.2 with ⟨e, h0⟩ | ⟨g, cap, cur, rfl, hb, hg, hn, hm, hs, hx⟩
  · exact .inl ⟨e, List.eq_nil_of_length_eq_zero h0⟩
  · refine .inr ⟨g, 0, cap, cur, rfl, hb, hg, hn, hm, by omega, fun i hi => ?_⟩
    have h4 : (cur.toList.take (L.length * 1))[i]? = some (.int .i64 (ix L i)) := by rw [hx]; exact map_ix L i hi
    rw [List.getElem?_take_of_lt (by omega)] at h4
    rw [Nat.zero_add]
    simpa using h4
theorem FolB.zero (x : XP) (y : WY) (B L : List Int) : FolB x y B 0 L := fun c hc => by simp at hc
theorem FolB.mono {x : XP} {y : WY} {B L L' : List Int} {j : Nat} (h : FolB x y B j L) (hL : ∀ c ∈ L, c ∈ L') : FolB x y B j L' := fun c hc z hz e h1 => hL _ (h c hc z hz e h1)
theorem FolB.next {x : XP} {y : WY} {B L : List Int} {j : Nat} (h : FolB x y B j L) (hj : j < B.length) (hc : ∀ z ∈ x.whys, z.atom = ix B j → z.level < y.level → ix B j ∈ L) : FolB x y B (j + 1) L := fun c hc' z hz e h1 => by
  rw [List.take_succ_eq_append_getElem hj, List.mem_append, ← ix_get hj, List.mem_singleton] at hc'
  rcases hc' with hc' | rfl
  · exact h c hc' z hz e h1
  · exact hc z hz e h1
theorem RulesIs.ruleAt {a : Option Addr} {n c k : Nat} {l : List GR} {w : World} (h : RulesIs w (.slice a n c) l) (hk : k < l.length) : ∃ b off, a = some ⟨b, off, none⟩ ∧ b < w.heap.size ∧ ∃ vh vb vw, RuleCells w b (off + k * 6) (ixR l k) vh vb vw ∧ RuleSl w (ixR l k) vh vb vw := by
  obtain ⟨a1, c1, e, -, -, -, hc⟩ := h.form
  simp only [Value.slice.injEq] at e
  obtain ⟨rfl, -, rfl⟩ := e
  obtain ⟨b, off, e, hb, hcc⟩ := hc (by omega)
  exact ⟨b, off, e, hb, hcc k hk⟩
theorem zeroY (w : World) : (zeroValue 49).run Tryz.prog w = .ok (.agg #[.int .i64 0, .int .i64 0, .int .i64 0]) w := Tryz.zeroValue49 w
set_option maxHeartbeats 8000000 in
set_option maxRecDepth 100000 in
theorem support_any (v vset vx : Value) (p : GP) (m : List Int) (x : XP) (a : Int) (w : World) (h : ProgIs w v p) (hm : Ints w vset m) (hx : ExplIs w vx x) (ha : InI a) (hw : x.whys.length ≤ 500) :
    Calls Tryz.prog 16 #[v, vset, vx, .int .i64 a] w (SuPost p m x a (w.heap.size + 2) w) := by
  have h0 := h
  have hx0 := hx
  obtain ⟨vn, vs, vr, vm, rfl, hps⟩ := h
  obtain ⟨vw, vq, rfl, hwh, hrs⟩ := hx
  obtain ⟨am, cm, rfl, -⟩ := id hm.form
  obtain ⟨a1, c1, rfl, -, hl1, -, -⟩ := hps.rules.form
  obtain ⟨a2, c2, rfl, -, hl2, -, -⟩ := hwh.form
  obtain ⟨a3, c3, rfl, -⟩ := hrs.form
  have hal := bal (bal (Below.refl w.heap.size w) (.cells #[.int .i64 p.n, vn, vs, .slice a1 p.rules.length c1, vm] 27)) (.cells #[.slice a2 x.whys.length c2, .slice a3 x.rest.length c3] 30)
  have hst : SuSt w p x (.int .i64 p.n) vn vs (.slice a1 p.rules.length c1) vm (.slice a2 x.whys.length c2) (.slice a3 x.rest.length c3) ((w.alloc (.cells #[.int .i64 p.n, vn, vs, .slice a1 p.rules.length c1, vm] 27)).alloc (.cells #[.slice a2 x.whys.length c2, .slice a3 x.rest.length c3] 30)) :=
    ⟨(Blk.new w [.int .i64 p.n, vn, vs, .slice a1 p.rules.length c1, vm] 27).alloc _, Blk.new2 w _ [.slice a2 x.whys.length c2, .slice a3 x.rest.length c3] 30, hps.rules.below hal, hwh.below hal, hal⟩
  have HP := Lib.hid (h0.below hal)
  have HM := Lib.hid (hm.below hal)
  have HX := Lib.hid (hx0.below hal)
  have HS0 := Lib.hid hst
  have HWI : Hid (∀ y ∈ x.whys, YI y) := Lib.hid hwh.2
  have hz0 : ((w.alloc (.cells #[.int .i64 p.n, vn, vs, .slice a1 p.rules.length c1, vm] 27)).alloc (.cells #[.slice a2 x.whys.length c2, .slice a3 x.rest.length c3] 30)).heap.size = w.heap.size + 2 := by simp
  have HZ0 := Lib.hid hz0
  have hmm := @run_makeMap Tryz.prog
  have HAI := Lib.hid ha
  clear h0 hx0 hps hwh hrs hm hal hst hz0 ha
  go_enter Tryz.func16, Tryz.ntmps16
  go_upto_region 1 with fail
  have kp0 := HS0.out.pbx.cell
  have kx0 := HS0.out.xbx.cell
  generalize (w.alloc (.cells #[.int .i64 p.n, vn, vs, .slice a1 p.rules.length c1, vm] 27)).alloc (.cells #[.slice a2 x.whys.length c2, .slice a3 x.rest.length c3] 30) = W0 at *
  by_cases he : xE p m = 0
  case neg =>
    have hne : (xE p m != 0) = true := by simp [he]
    have hne2 : (xE p m == 0) = false := by simp [he]
    have HE : Hid (Ending.returned (.tuple #[.bool (decide (xE p m = 0) && chkX p m x), .int .i64 (xE p m)]) = .returned (.tuple #[.bool false, .int .i64 (xE p m)])) := Lib.hid (by rw [decide_eq_false he, Bool.false_and])
    have HE2 := Lib.hid he
    clear he
    go_wp2_with (go_at_call 15; (with_reducible refine (checkX_any _ _ _ p m x _ HP.out HM.out HX.out hw).mono ?_); rintro e w1 ⟨e1, hb1⟩; rw [HE.out] at e1; subst e1; have HS1 := Lib.hid (HS0.out.on hb1); have kx1 := HS1.out.xbx.cell; have hz1 := hb1.size; clear hb1)
    go_ret2
    exact ⟨_, [], _, rfl, QRow.nil _ _, HS1.out.below, .inl ⟨HE2.out, rfl, rfl⟩⟩
  cases hck : chkX p m x with
  | false =>
    have HE : Hid (Ending.returned (.tuple #[.bool (decide (xE p m = 0) && chkX p m x), .int .i64 (xE p m)]) = .returned (.tuple #[.bool false, .int .i64 0])) := Lib.hid (by rw [hck, Bool.and_false, he])
    have HE2 := Lib.hid he
    have HCK := Lib.hid hck
    clear he hck
    go_wp2_with (go_at_call 15; (with_reducible refine (checkX_any _ _ _ p m x _ HP.out HM.out HX.out hw).mono ?_); rintro e w1 ⟨e1, hb1⟩; rw [HE.out] at e1; subst e1; have HS1 := Lib.hid (HS0.out.on hb1); have kx1 := HS1.out.xbx.cell; have hz1 := hb1.size; clear hb1)
    go_ret2
    exact ⟨_, [], _, rfl, QRow.nil _ _, HS1.out.below, .inr (.inl ⟨HE2.out, HCK.out, rfl, rfl⟩)⟩
  | true =>
    have HE : Hid (Ending.returned (.tuple #[.bool (decide (xE p m = 0) && chkX p m x), .int .i64 (xE p m)]) = .returned (.tuple #[.bool true, .int .i64 0])) := Lib.hid (by rw [hck, he]; rfl)
    obtain ⟨hv, hset, -⟩ := xE_ok he
    have hval := chk_val hv hset hck
    have hrng : ∀ y ∈ x.whys, 1 ≤ y.atom ∧ 0 ≤ y.rule ∧ y.rule < p.rules.length := fun y hy => by
      have h2 := setQ_rng hset ((hval.part y.atom).2 (.inr (List.mem_map.2 ⟨y, hy, rfl⟩)))
      obtain ⟨i, e, hi, -⟩ := hval.der y hy
      omega
    have HE2 := Lib.hid he
    have HCK := Lib.hid hck
    have HV := Lib.hid hv
    have HVAL := Lib.hid hval
    have HRNG := Lib.hid hrng
    clear he hck hv hset hval hrng
    go_upto_region 7 with (go_at_call 15; (with_reducible refine (checkX_any _ _ _ p m x _ HP.out HM.out HX.out hw).mono ?_); rintro e w1 ⟨e1, hb1⟩; rw [HE.out] at e1; subst e1; have HS1 := Lib.hid (HS0.out.on hb1); have kx1 := HS1.out.xbx.cell; have hz1 := hb1.size; clear hb1)
    have hlx := HS1.out.xbx.lt
    have hlp := HS1.out.pbx.lt
    go_wp2
    go_loopw [39] (fun i wx => Su1Rel x w1 i wx) (fun i _ => x.whys.length - (intOf i).toNat)
    case atStart => exact ⟨0, Nat.zero_le _, rfl, MapIs.made w1, bal (Below.refl _ _) _⟩
    case round =>
      obtain ⟨j, hj, rfl, hmp, hbl⟩ := hrel
      have HMP := Lib.hid hmp
      have HBL := Lib.hid hbl
      have HSR := Lib.hid (HS1.out.on hbl)
      have hmlt := hmp.lt
      clear hmp hbl
      by_cases hlt : j < x.whys.length
      · obtain ⟨b, off, rfl, hb, hc0, hc1, hc2⟩ := HSR.out.whs.at hlt
        obtain ⟨y, hy⟩ : ∃ y, ixY x.whys j = y := ⟨_, rfl⟩
        have htk : x.whys.take (j + 1) = x.whys.take j ++ [y] := by
          rw [List.take_succ_eq_append_getElem hlt, ← hy]
          simp only [ixY, List.getD_eq_getElem?_getD, List.getElem?_eq_getElem hlt, Option.getD_some]
        have hgs := whyG_snoc (x.whys.take j) y
        rw [← htk] at hgs
        have HGS := Lib.hid hgs
        rw [hy] at hc0 hc1 hc2
        clear hy htk hgs
        go_upto_region 10 with fail
        have hal3 := bal (Below.refl wr.heap.size wr) (.cells #[.int .i64 y.atom, .int .i64 y.rule, .int .i64 y.level] 49)
        have HW3 := Lib.hid (Blk.new wr [.int .i64 y.atom, .int .i64 y.rule, .int .i64 y.level] 49)
        have HM3 := Lib.hid (HMP.out.below hal3)
        have HB3 := Lib.hid (bon HBL.out hal3)
        have kw3 := HW3.out.cell
        clear hal3 hc0 hc1 hc2 hb
        generalize wr.alloc (.cells #[.int .i64 y.atom, .int .i64 y.rule, .int .i64 y.level] 49) = W3 at *
        go_wp2_with (at_mapUpdate; refine wpList_mput _ _ y.atom (whyV y) kvInt 93 3 49 Tryz.underlying93 Tryz.underlying3 rfl _ _ _ rfl rfl rfl rfl HM3.out ?_; intro w7 hm7 hg7 hs7; rw [← HGS.out] at hm7; have HM7 := Lib.hid hm7; have HB7 : Hid (Below w1.heap.size w1 w7) := Lib.hid (HB3.out.trans ⟨hg7.os, hg7.tape, hg7.output, hg7.size, fun i hi => hg7.block i (by have := HB3.out.size; omega) (fun e => by have := Option.some.inj e; omega)⟩); clear hm7 hg7 hs7)
        first
          | (go_roundw
             case rel => (exact ⟨j + 1, hlt, by go_num, HM7.out, HB7.out⟩)
             case measure => (simp [intOf]; omega))
          | (refine ⟨?_, ?_⟩
             · (exact ⟨j + 1, hlt, by go_num, HM7.out, HB7.out⟩)
             · (simp [intOf]; omega))
      · obtain rfl : j = x.whys.length := by omega
        rw [List.take_length] at HMP
        have hlk := fun b => HMP.out.lookup kvInt Tryz.underlying93 Tryz.underlying3 (zeroY wr) b
        by_cases hin : a ∈ atomsY x.whys
        case neg =>
          have hlk0 := hlk a
          rw [whyG_none hin] at hlk0
          simp only [Option.getD_none] at hlk0
          have HIN := Lib.hid hin
          clear hlk hin
          go_wp2
          go_ret2
          exact ⟨_, [], _, rfl, QRow.nil _ _, HSR.out.below, .inr (.inr (.inl ⟨HE2.out, HCK.out, HIN.out, rfl, rfl⟩))⟩
        obtain ⟨y0, hy0, hya0, hg0⟩ := whyG_some hin
        have hlk0 := hlk a
        rw [hg0] at hlk0
        simp only [Option.getD_some, whyV] at hlk0
        have hy01 := (HRNG.out y0 hy0).1
        have hyn : (y0.atom == 0) = false := by simp; omega
        have HIN := Lib.hid hin
        clear hlk hin hg0 hy0 hya0
        go_upto_region 15 with fail
        obtain ⟨w2r, rfl⟩ : ∃ x : World, x = wr := ⟨_, rfl⟩
        have hone := OwnL.one w2r HAI.out
        have hal2 := bal (Below.refl w2r.heap.size w2r) (.cells #[.int .i64 a] 3)
        have HONE := Lib.hid hone
        have HAL2 := Lib.hid hal2
        clear hone hal2 hlk0 hyn hy01 kx1
        generalize hW2 : w2r.alloc (.cells #[.int .i64 a] 3) = W2 at *
        clear hW2
        go_wp2
        go_loopw [15, 16] (fun vo i wx => Su2Rel p x a w1.heap.size w2r vo i wx) (fun _ i _ => x.whys.length - (intOf i).toNat)
        case atStart => exact ⟨0, [a], rfl, Nat.zero_le _, SupL.start HIN.out, HONE.out, HAL2.out⟩
        case round =>
          obtain ⟨n, L, rfl, hn, hsl, hown, hbl⟩ := hrel
          obtain ⟨ao, co, rfl⟩ := hown.slen
          have hLl := hsl.len
          have HSL := Lib.hid hsl
          have HOW := Lib.hid hown
          have HBR := Lib.hid hbl
          have HS2 := Lib.hid (HSR.out.on hbl)
          have HMR := Lib.hid (HMP.out.below hbl)
          have hz2 := hbl.size
          have kp2 := HS2.out.pbx.cell
          clear hsl hown hbl
          by_cases hlt : n < L.length
          · obtain ⟨b, off, rfl, hb, hc⟩ := (HOW.out.ownI (by omega)).ints.at hlt
            obtain ⟨y, hy, hya, hgy⟩ := whyG_some (HSL.out.sub _ (ix_mem hlt))
            have hlkb := HMR.out.lookup kvInt Tryz.underlying93 Tryz.underlying3 (zeroY wr) (ix L n)
            rw [hgy] at hlkb
            simp only [Option.getD_some, whyV] at hlkb
            obtain ⟨hr1, hr2, hr3⟩ := HRNG.out y hy
            obtain ⟨ri, hri⟩ : ∃ ri : Nat, y.rule = ri := ⟨y.rule.toNat, by omega⟩
            have hril : ri < p.rules.length := by omega
            have hrt : y.rule.toNat = ri := by omega
            rw [hri] at hlkb
            obtain ⟨br, orr, rfl, hbr, vh, vb, vw', ⟨q0, q1, q2, q3, q4, q5⟩, hrsl⟩ := HSR.out.rul.ruleAt hril
            have HYM := Lib.hid hy
            have HYA := Lib.hid hya
            have HRT := Lib.hid hrt
            have HBI := Lib.hid hrsl.body
            obtain ⟨ab, cb, rfl, -, hlb, -, -⟩ := hrsl.body.form
            clear hy hgy hri hrt hr1 hr2 hr3 hrsl q0 q1 q2 q3 q5 hya
            go_upto_region 19 with fail
            have hal3 := bal (Below.refl wr.heap.size wr) (.cells #[.int .i64 y.atom, .int .i64 (ri : Int), .int .i64 y.level] 49)
            have HW3 := Lib.hid (Blk.new wr [.int .i64 y.atom, .int .i64 (ri : Int), .int .i64 y.level] 49)
            have HS3 := Lib.hid (HS2.out.on hal3)
            have HOW3 := Lib.hid (HOW.out.below hal3)
            have HB3 := Lib.hid (bon HBR.out hal3)
            have kw3 := HW3.out.cell
            have kp3 := HS3.out.pbx.cell
            have kq3 := (bcell (bon HBR.out hal3) br (orr + ri * 6 + 4) hbr).trans q4
            have hzw3 := HW3.out.lt
            clear hal3 hc hb hlkb q4 hbr kp2
            generalize wr.alloc (.cells #[.int .i64 y.atom, .int .i64 (ri : Int), .int .i64 y.level] 49) = W3 at *
            generalize wr.heap.size = wb at *
            go_wp2
            obtain ⟨B, hBb⟩ : ∃ B, (ixR p.rules ri).body = B := ⟨_, rfl⟩
            rw [hBb] at HBI
            have HBB := Lib.hid hBb
            rw [hBb] at hlb
            rw [hBb]
            obtain ⟨wq, rfl⟩ : ∃ wq : World, wq = wr := ⟨_, rfl⟩
            clear hBb
            go_loopw [15, 75] (fun vo i wx => Su3Rel p x a n y B wb [.int .i64 y.atom, .int .i64 (ri : Int), .int .i64 y.level] w2r vo i wx) (fun _ i _ => B.length - (intOf i).toNat)
            case atStart => exact ⟨0, L, rfl, Nat.zero_le _, hlt, HYA.out, HSL.out, FolB.zero _ _ _ _, HOW3.out, HB3.out, HW3.out⟩
            case round =>
              obtain ⟨j, L2, rfl, hj, hnl, hya2, hsl2, hfol, hown2, hbl2, hwb⟩ := hrel
              obtain ⟨ao2, co2, rfl⟩ := hown2.slen
              have hLl2 := hsl2.len
              have HSL2 := Lib.hid hsl2
              have HYA2 := Lib.hid hya2
              have HFO := Lib.hid hfol
              have HOW4 := Lib.hid hown2
              have HB4 := Lib.hid hbl2
              have HWB := Lib.hid hwb
              have HMR4 := Lib.hid (HMP.out.below hbl2)
              have kwb := hwb.cell
              have hwlt := hwb.lt
              have hz4 := hbl2.size
              clear hsl2 hya2 hfol hown2 hbl2 hwb
              by_cases hlt2 : j < B.length
              · obtain ⟨b5, o5, rfl, hb5, hc5⟩ := (HBI.out.below HB4.out).at hlt2
                obtain ⟨c, hcc⟩ : ∃ c, ix B j = c := ⟨_, rfl⟩
                have hci : InI c := by rw [← hcc]; exact HBI.out.2 j
                rw [hcc] at hc5
                have HCC := Lib.hid hcc
                have HCI := Lib.hid hci
                have hlkc := HMR4.out.lookup kvInt Tryz.underlying93 Tryz.underlying3 (zeroY wr) c
                clear hcc hci
                by_cases hin : c ∈ atomsY x.whys
                case neg =>
                  rw [whyG_none hin] at hlkc
                  simp only [Option.getD_none] at hlkc
                  have HFN : Hid (FolB x y B (j + 1) L2) := Lib.hid (HFO.out.next hlt2 fun z hz e _ => absurd (List.mem_map.2 ⟨z, hz, e.trans HCC.out⟩) hin)
                  clear hin
                  go_wp2
                  first
                    | (go_roundw
                       case rel => (exact ⟨j + 1, L2, by go_num, hlt2, hnl, HYA2.out, HSL2.out, HFN.out, HOW4.out.below (bal (Below.refl _ _) _), bal HB4.out _, HWB.out.alloc _⟩)
                       case measure => (simp [intOf]; omega))
                    | (refine ⟨?_, ?_⟩
                       · (exact ⟨j + 1, L2, by go_num, hlt2, hnl, HYA2.out, HSL2.out, HFN.out, HOW4.out.below (bal (Below.refl _ _) _), bal HB4.out _, HWB.out.alloc _⟩)
                       · (simp [intOf]; omega))
                obtain ⟨z, hz, hza, hgz⟩ := whyG_some hin
                rw [hgz] at hlkc
                simp only [Option.getD_some, whyV] at hlkc
                have hzp := (HRNG.out z hz).1
                have hzn : (z.atom == 0) = false := by simp; omega
                have HZ := Lib.hid hz
                have HZA := Lib.hid hza
                clear hin hgz hz hza
                by_cases hlv : z.level < y.level
                · have hlvd := decide_eq_true hlv
                  by_cases hct : c ∈ L2
                  · have HCT : Hid (decide (c ∈ L2) = true) := Lib.hid (decide_eq_true hct)
                    have HFN : Hid (FolB x y B (j + 1) L2) := Lib.hid (HFO.out.next hlt2 fun z' _ _ _ => by rw [HCC.out]; exact hct)
                    clear hct
                    go_wp2_with (go_at_call 57; (with_reducible refine (contains_any _ L2 _ _ ((HOW4.out.below (bal (Below.refl _ _) _)).ownI (by omega)).ints).mono ?_); rintro e w6 ⟨e6, rfl⟩; rw [HCT.out] at e6; subst e6)
                    first
                      | (go_roundw
                         case rel => (exact ⟨j + 1, L2, by go_num, hlt2, hnl, HYA2.out, HSL2.out, HFN.out, HOW4.out.below (bal (Below.refl _ _) _), bal HB4.out _, HWB.out.alloc _⟩)
                         case measure => (simp [intOf]; omega))
                      | (refine ⟨?_, ?_⟩
                         · (exact ⟨j + 1, L2, by go_num, hlt2, hnl, HYA2.out, HSL2.out, HFN.out, HOW4.out.below (bal (Below.refl _ _) _), bal HB4.out _, HWB.out.alloc _⟩)
                         · (simp [intOf]; omega))
                  · have HCT : Hid (decide (c ∈ L2) = false) := Lib.hid (decide_eq_false hct)
                    have hbm : z.atom ∈ (ixR p.rules y.rule.toNat).body := by rw [HZA.out, HRT.out, HBB.out, ← HCC.out]; exact ix_mem hlt2
                    have hadd := HSL2.out.add hnl HYM.out HYA2.out HZ.out hbm hlv (by rw [HZA.out]; exact hct)
                    rw [HZA.out] at hadd
                    have HADD := Lib.hid hadd
                    have HFN : Hid (FolB x y B (j + 1) (L2 ++ [c])) := Lib.hid ((HFO.out.mono (fun c hc => List.mem_append.2 (.inl hc))).next hlt2 fun z' _ _ _ => by rw [HCC.out]; simp)
                    have HYA5 : Hid (y.atom = ix (L2 ++ [c]) n) := Lib.hid (by rw [ix_app, if_pos hnl]; exact HYA2.out)
                    have hb6 : Below w2r.heap.size w2r (wr.alloc (.cells #[.int .i64 z.atom, .int .i64 z.rule, .int .i64 z.level] 49)) := bal HB4.out _
                    have HO6 : Hid (OwnL w2r.heap.size (wr.alloc (.cells #[.int .i64 z.atom, .int .i64 z.rule, .int .i64 z.level] 49)) (.slice ao2 L2.length co2) L2) := Lib.hid (HOW4.out.below (bal (Below.refl _ _) _))
                    have HW6 := Lib.hid (HWB.out.alloc (.cells #[.int .i64 z.atom, .int .i64 z.rule, .int .i64 z.level] 49))
                    have HB6 := Lib.hid hb6
                    have hl6 : (L2 ++ [c]).length = L2.length + 1 := by simp
                    have HL6 := Lib.hid hl6
                    clear hct hbm hadd hb6 hl6
                    go_upto_region 24 with (go_at_call 57; (with_reducible refine (contains_any _ L2 _ _ (HO6.out.ownI (by omega)).ints).mono ?_); rintro e w6 ⟨e6, rfl⟩; rw [HCT.out] at e6; subst e6)
                    generalize wr.alloc (.cells #[.int .i64 z.atom, .int .i64 z.rule, .int .i64 z.level] 49) = W6 at *
                    have hz6 := HB6.out.size
                    go_wp2_with (at_builtin; refine wpList_appendO rfl _ _ rfl w2r.heap.size W6.heap.size _ L2 c rfl rfl (HO6.out.below (bal (Below.refl _ _) _)) (Blk.new W6 [.int .i64 c] _) HCI.out (by omega) (by simp; omega) ?_; intro g cap w7 hm7 hg7; have HM7 := Lib.hid hm7; have HB7 : Hid (Below w2r.heap.size w2r w7) := Lib.hid (belowO (bal HB6.out _) (HO6.out.below (bal (Below.refl _ _) _)) hg7 (by simp; omega)); have HW7 := Lib.hid ((HW6.out.alloc (.cells #[.int .i64 c] 3)).same (hg7.block _ (HW6.out.alloc (.cells #[.int .i64 c] 3)).lt fun e => (HO6.out.below (bal (Below.refl _ _) (.cells #[.int .i64 c] 3))).far (HW6.out.alloc (.cells #[.int .i64 c] 3)) (by decide) e.symm)); clear hm7 hg7)
                    first
                      | (go_roundw
                         case rel => (exact ⟨j + 1, L2 ++ [c], by go_num, hlt2, by have := HL6.out; omega, HYA5.out, HADD.out, HFN.out, HM7.out, HB7.out, HW7.out⟩)
                         case measure => (simp [intOf]; omega))
                      | (refine ⟨?_, ?_⟩
                         · (exact ⟨j + 1, L2 ++ [c], by go_num, hlt2, by have := HL6.out; omega, HYA5.out, HADD.out, HFN.out, HM7.out, HB7.out, HW7.out⟩)
                         · (simp [intOf]; omega))
                · have hlvd := decide_eq_false hlv
                  have HFN : Hid (FolB x y B (j + 1) L2) := Lib.hid (HFO.out.next hlt2 fun z' hz' e h1 => by
                    have : z' = z := why_same HVAL.out.nod hz' HZ.out ((e.trans HCC.out).trans HZA.out.symm)
                    rw [this] at h1
                    exact absurd h1 hlv)
                  go_wp2
                  first
                    | (go_roundw
                       case rel => (exact ⟨j + 1, L2, by go_num, hlt2, hnl, HYA2.out, HSL2.out, HFN.out, HOW4.out.below (bal (Below.refl _ _) _), bal HB4.out _, HWB.out.alloc _⟩)
                       case measure => (simp [intOf]; omega))
                    | (refine ⟨?_, ?_⟩
                       · (exact ⟨j + 1, L2, by go_num, hlt2, hnl, HYA2.out, HSL2.out, HFN.out, HOW4.out.below (bal (Below.refl _ _) _), bal HB4.out _, HWB.out.alloc _⟩)
                       · (simp [intOf]; omega))
              · obtain rfl : j = B.length := by omega
                have HTN := Lib.hid (HSL2.out.turn HVAL.out.nod HYM.out HYA2.out (by rw [HRT.out, HBB.out]; exact HFO.out))
                go_wp2
                first
                  | (go_roundw
                     case rel => (exact ⟨n + 1, L2, by go_num, hnl, HTN.out, HOW4.out, HB4.out⟩)
                     case measure => (simp [intOf]; omega))
                  | (refine ⟨?_, ?_⟩
                     · (exact ⟨n + 1, L2, by go_num, hnl, HTN.out, HOW4.out, HB4.out⟩)
                     · (simp [intOf]; omega))
          · obtain rfl : n = L.length := by omega
            have HALL := Lib.hid HSL.out.all
            have HNOD := Lib.hid HSL.out.nod
            have hsl := sortI_len L
            have HSLN := Lib.hid hsl
            have HRES : Hid ((srt L).Pairwise (· < ·) ∧ ∀ b, b ∈ srt L ↔ SupR p x a b) := Lib.hid ⟨by
              have h1 := (sortI_pairwise L).and ((List.mergeSort_perm L (fun x y => decide (x ≤ y))).nodup_iff.2 HNOD.out)
              exact h1.imp fun ⟨a, b⟩ => Int.lt_iff_le_and_ne.2 ⟨a, b⟩, fun b => (sortI_mem L b).trans (HALL.out b)⟩
            have HZW : Hid (w.heap.size + 2 ≤ w2r.heap.size) := Lib.hid (by have := HZ0.out; have := HBL.out.size; omega)
            have HLQ : Hid ((srt L).length ≤ 1000000) := Lib.hid (Nat.le_trans (Nat.le_of_eq HSLN.out) (by have := HSL.out.len; omega))
            clear hsl
            go_wp2_with (go_at_call 58; (with_reducible refine (sortL_own HOW.out).mono ?_); rintro e w8 ⟨rfl, ho8, hg8⟩; have HO8 := Lib.hid ho8; have HB8 : Hid (Below w2r.heap.size w2r w8) := Lib.hid (belowO HBR.out HOW.out hg8 HBR.out.size); clear ho8 hg8)
            go_ret2
            exact ⟨_, srt L, _, rfl, (HO8.out.qrow HLQ.out).mono HZW.out, (HSR.out.on HB8.out).below, .inr (.inr (.inr ⟨HE2.out, HCK.out, HIN.out, rfl, HRES.out.1, HRES.out.2⟩))⟩
abbrev BAt (B b : Nat) (p : Value) (bs : List Value) (w : World) : Prop := Lib.BuilderAtF 100 5 B b p bs w
abbrev IsB (B b : Nat) (bs : List Value) (w : World) : Prop := Lib.IsBuilderF 100 5 B b bs w
theorem infoB : (Tryz.prog.info? 5).map (fun i => (i.zero, i.size, i.bytes)) = some (some (.int .u8 0), 1, 1) := by kernel_rfl
theorem sizeB : (Tryz.prog.info? 100).map (·.size) = some 2 := by kernel_rfl
set_option maxHeartbeats 1000000 in
set_option maxRecDepth 100000 in
theorem cc_fresh (b : Nat) (w : World) (h0 : w.cell? ⟨b, 0, none⟩ = some (.pointer none)) (hsh : w.shape? b = some (100, 2)) (hfz : w.frozen? ⟨b, 0, none⟩ = false) :
    Calls Tryz.prog 120 #[.pointer (some ⟨b, 0, none⟩)] w fun e w' => e = .returned (.tuple #[]) ∧ w' = w.setCell ⟨b, 0, none⟩ (.pointer (some ⟨b, 0, none⟩)) := by
  obtain ⟨j, hj, hjs⟩ := Option.map_eq_some_iff.1 sizeB
  go_enter Tryz.func120, Tryz.ntmps120
  go_wp2
  rw [Lib.run_to_unsafe w ⟨b, 0, none⟩ Tryz.underlying97 Tryz.underlying185 hj (by rw [hjs]; decide) hsh (Nat.zero_lt_succ 1)]
  simp only [Result.andThen]
  rw [Oper.upon_value]
  go_wp2
  rw [run_callFunc_extern Tryz.func161 (by kernel_rfl) (by kernel_rfl) (by kernel_rfl) (e := Extern.AbiNoEscape.same) (by kernel_rfl)]
  rw [Lib.run_noEscape]
  simp only [Result.andThen]
  rw [Oper.upon_value]
  go_wp2
  rw [Lib.run_from_unsafe w ⟨b, 0, none⟩ Tryz.underlying185 Tryz.underlying97 hj hsh Tryz.Builder_Extra_169.toX72.liesBuilder]
  simp only [Result.andThen]
  rw [Oper.upon_value]
  go_wp2
  go_end0
  exact ⟨rfl, rfl⟩
set_option maxHeartbeats 1000000 in
set_option maxRecDepth 100000 in
theorem cc_used (b : Nat) (w : World) (h0 : w.cell? ⟨b, 0, none⟩ = some (.pointer (some ⟨b, 0, none⟩))) :
    Calls Tryz.prog 120 #[.pointer (some ⟨b, 0, none⟩)] w fun e w' => e = .returned (.tuple #[]) ∧ w' = w := by
  obtain ⟨j, hj, _⟩ := Option.map_eq_some_iff.1 sizeB
  go_enter Tryz.func120, Tryz.ntmps120
  go_wp2
  rw [Lib.run_neq_ptr_same w _ Tryz.underlying97 hj]
  go_wp2
  go_end0
  exact ⟨rfl, rfl⟩
theorem cc_any (B b : Nat) (bs : List Value) (w : World) (h : IsB B b bs w) :
    Calls Tryz.prog 120 #[.pointer (some ⟨b, 0, none⟩)] w fun e w' => e = .returned (.tuple #[]) ∧ (BAt B b (.pointer (some ⟨b, 0, none⟩)) bs w' ∧ Below B w w' ∧ Lib.OthersKept 5 (some b) w w') := by
  rcases h with h | h
  · refine (cc_fresh b w h.cell0 h.shape h.frozen0).mono ?_
    rintro e w' ⟨rfl, rfl⟩
    exact ⟨rfl, h.used _, (Below.refl B w).setCell (p := ⟨b, 0, none⟩) h.1 _, (Lib.OthersKept.refl _ _ w).setCell ⟨b, 0, none⟩ rfl _⟩
  · refine (cc_used b w h.cell0).mono ?_
    rintro e w' ⟨rfl, rfl⟩
    exact ⟨rfl, h, Below.refl B _, Lib.OthersKept.refl _ _ _⟩
set_option maxHeartbeats 2000000 in
set_option maxRecDepth 100000 in
theorem ws_any (B b : Nat) (bs : List Value) (s : ByteArray) (w : World) (h : IsB B b bs w) (hlen : bs.length + s.size ≤ 140737488355328) (hBw : B ≤ w.heap.size) :
    Calls Tryz.prog 62 #[.pointer (some ⟨b, 0, none⟩), .string s] w fun e w' => e = .returned (.tuple #[.int .i64 s.size, .nilIface]) ∧ (BAt B b (.pointer (some ⟨b, 0, none⟩)) (bs ++ Lib.strCells s) w' ∧ Below B w w' ∧ Lib.OthersKept 5 (some b) w w') := by
  obtain ⟨i0, hi, hz0, hz1, hz2⟩ := info_parts infoB
  go_enter Tryz.func62, Tryz.ntmps62
  go_wp2_with (go_at_call 120; refine (cc_any B b bs _ h).mono ?_)
  rintro e w1 ⟨rfl, h1, hb1, hk1⟩
  obtain ⟨hB, v, hbk, hown, hne⟩ := h1
  have c0 : w1.cell? ⟨b, 0, none⟩ = some (.pointer (some ⟨b, 0, none⟩)) := by rw [Lib.cell_of_heap hbk]; rfl
  have c1 : w1.cell? ⟨b, 1, none⟩ = some v := by rw [Lib.cell_of_heap hbk]; rfl
  go_wp2_with (at_builtin; refine Lib.wpList_append_own_stringF _ rfl _ _ 98 9 rfl B 5 i0 Tryz.underlying98 Tryz.underlying9 hi hz0 hz1 hz2 _ _ _ rfl hown s rfl ?c3 ?c4 ?c5 ?_)
  case c3 => unfold maxLen; omega
  case c4 => omega
  case c5 => have := hb1.size; omega
  intro v' w2 hown' hgrow _
  have hlt : b < w1.heap.size := (Array.getElem?_eq_some_iff.1 hbk).1
  have hb2 : w2.heap[b]? = some (.cells #[.pointer (some ⟨b, 0, none⟩), v] 100 (0, 0)) := by
    rw [hgrow.block b hlt (fun e => hne e.symm)]
    exact hbk
  have d0 : w2.cell? ⟨b, 0, none⟩ = some (.pointer (some ⟨b, 0, none⟩)) := by rw [Lib.cell_of_heap hb2]; rfl
  have d1 : w2.cell? ⟨b, 1, none⟩ = some v := by rw [Lib.cell_of_heap hb2]; rfl
  have f1 : w2.frozen? ⟨b, 1, none⟩ = false := Lib.frozen_of_heap hb2 1
  obtain ⟨ao, n', cap, rfl⟩ : ∃ ao n' cap, v' = .slice ao n' cap := by
    rcases hown'.2 with ⟨hv, _⟩ | ⟨g, cap, cur, fz, hv, _⟩
    · exact ⟨_, _, _, hv⟩
    · exact ⟨_, _, _, hv⟩
  go_wp2
  go_ret2
  refine ⟨rfl, ?_, ?_, (hk1.grown hgrow (Lib.ownsRowF_kind hown)).setCell ⟨b, 1, none⟩ rfl _⟩
  · exact Lib.BuilderAtF.put (T := 100) (e := 5) hB hb2 (bs' := bs ++ Lib.strCells s) (by simpa [Lib.strCells_length] using hown') (by decide)
  · exact (hb1.grown hgrow (by have := hb1.size; omega) (fun k hk => (hown.lt k hk).1)).setCell (p := ⟨b, 1, none⟩) hB _
end Go.Proofs.YtfajkmmmmmfhiaaGreatDoor
namespace Go.Proofs.YtfajkmmmmmfhiaaGreatDoor
open Go.RowKit Go.Shelf
attribute [local go_sem] Oper.semAt_some
theorem IsB.own {b : Nat} {bs : List Value} {X Y : World} {row : Option Nat} (h : IsB b b bs X) (hg : X.grownBy Y row) (hr : ∀ r, row = some r → ∃ o : Obj, X.heap[r]? = some o ∧ o.isCells = false) : IsB b b bs Y := by
  have key : ∀ p, BAt b b p bs X → BAt b b p bs Y := fun p ⟨h1, v, h2, h3, h4⟩ => by
    have hne : ∀ k (o : Obj), X.heap[k]? = some o → o.isCells = true → row ≠ some k := fun k o hk hc e => by
      obtain ⟨o2, ho, hc2⟩ := hr k e
      rw [hk] at ho
      cases ho
      rw [hc] at hc2
      cases hc2
    refine ⟨h1, v, (hg.block b (Array.getElem?_eq_some_iff.1 h2).1 (fun e => hne b _ h2 rfl e.symm)).trans h2, h3.kept hg ?_, h4⟩
    rcases h3.2 with ⟨rfl, _⟩ | ⟨g, cap, cur, fz, rfl, _, hgg, _⟩
    · exact .inl rfl
    · exact .inr (fun e => hne g _ hgg rfl e.symm)
  exact h.elim (fun x => .inl (key _ x)) (fun x => .inr (key _ x))
end Go.Proofs.YtfajkmmmmmfhiaaGreatDoor
namespace Go.Proofs.YtfajkmmmmmfhiaaGreatDoor
open Go.RowKit
def twoP : GP := ⟨2, [⟨#[97]⟩, ⟨#[98]⟩], [], [⟨false, [1], false, 0, [-2], []⟩, ⟨false, [2], false, 0, [-1], []⟩], []⟩
def ct1 : PBC := ⟨[1, 2, -4], [1, 2, 2], 2⟩
def ct2 : PBC := ⟨[-1, -2, 4], [1, 2, 2], 2⟩
def ct3 : PBC := ⟨[3, -4], [1, 1], 1⟩
theorem d1 : Lib.decDigits 1 = [49] := by unfold Lib.decDigits; rfl
theorem d2 : Lib.decDigits 2 = [50] := by unfold Lib.decDigits; rfl
theorem d3 : Lib.decDigits 3 = [51] := by unfold Lib.decDigits; rfl
theorem Blk.strs {w : World} {b : Nat} {l : List ByteArray} (h : Blk w b (l.map Value.string) 9) (hs : ∀ x ∈ l, x.size ≤ 1000) (hl : l.length ≤ 1000) : Strs w (.slice (some ⟨b, 0, none⟩) l.length l.length) l := by
  refine ⟨⟨_, l.length, rfl, Nat.le_refl _, by unfold maxLen; omega, by omega, fun _ => ⟨b, 0, rfl, h.lt, fun i hi => ?_⟩⟩, fun i => ?_⟩
  · rw [Nat.zero_add, h.cell]
    simp [ixS, List.getD_eq_getElem?_getD, hi]
  · unfold ixS
    rw [List.getD_eq_getElem?_getD]
    cases e : l[i]? with
    | none => decide
    | some x =>
      have := hs x (List.mem_of_getElem? e)
      simp only [Option.getD_some]
      omega
theorem Blk.rules {w : World} {b : Nat} {L : List RQ} (h : Blk w b (L.flatMap cells6) 60) (hs : ∀ q ∈ L, RuleSl w q.1 q.2.1 q.2.2.1 q.2.2.2) (hl : L.length ≤ 1000) : RulesIs w (.slice (some ⟨b, 0, none⟩) L.length L.length) (L.map (·.1)) := by
  have hg : ∀ i, i < L.length → L.getD i default ∈ L := fun i hi => by
    rw [List.getD_eq_getElem?_getD, List.getElem?_eq_getElem hi]
    exact List.getElem_mem hi
  have hx : ∀ i, i < L.length → ixR (L.map (·.1)) i = (L.getD i default).1 := fun i hi => by
    simp [ixR, List.getD_eq_getElem?_getD, hi]
  refine ⟨fun i => (L.getD i default).2.1, fun i => (L.getD i default).2.2.1, fun i => (L.getD i default).2.2.2, ⟨_, L.length, by rw [List.length_map], by rw [List.length_map]; exact Nat.le_refl _, by unfold maxLen; omega, by rw [List.length_map]; omega, fun _ => ⟨b, 0, rfl, h.lt, fun i hi j hj => ?_⟩⟩, fun i hi => ?_⟩
  · rw [List.length_map] at hi
    show _ = some (ruleCell (ixR (L.map (·.1)) i) (L.getD i default).2.1 (L.getD i default).2.2.1 (L.getD i default).2.2.2 j)
    rw [h.cell, hx i hi, Nat.zero_add, flat6 L i j hi hj]
    rcases (show j = 0 ∨ j = 1 ∨ j = 2 ∨ j = 3 ∨ j = 4 ∨ j = 5 by omega) with rfl | rfl | rfl | rfl | rfl | rfl <;> rfl
  · rw [List.length_map] at hi
    rw [hx i hi]
    exact hs _ (hg i hi)
theorem nil_mins (w : World) : MinsIs w (.slice none 0 0) [] := ⟨fun _ => undef, fun _ => undef, ⟨none, 0, rfl, Nat.le_refl _, by unfold maxLen; omega, by simp, fun h => absurd h (by simp)⟩, fun i hi => absurd hi (by simp)⟩
theorem inI_small {x : Int} (h : -1000000 ≤ x ∧ x ≤ 1000000) : InI x := by unfold InI; omega
end Go.Proofs.YtfajkmmmmmfhiaaGreatDoor
