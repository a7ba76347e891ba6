/- My texts Perm3, Ex0, Stb1, Ex1, Ex2, Sn41, Ck41, merged. -/
import Derived.Test.YtfajkmmmmmfhiaaGreatDoorM02
import Derived.Test.YtfajkmmmmmfhiaaGreatDoorM01
import Derived.Test.YtfajkmmmmmfhiaaGreatDoorM00
import Derived.Test.YtfajkmmmmmfhiaaGreatDoorProg
import Derived.WalkKit
import Derived.Lib.Hide
import Derived.Deep.QuietTactic
import Derived.BigQuiet
import Derived.Test.YtfajkmmmmmfhiaaGreatDoorM07
import Derived.Test.YtfajkmmmmmfhiaaGreatDoorM06
import Derived.Test.YtfajkmmmmmfhiaaGreatDoorM05
import Derived.Test.YtfajkmmmmmfhiaaGreatDoorM04
import Derived.Test.YtfajkmmmmmfhiaaGreatDoorM03
import Derived.WalkSpells
import Derived.Lib.SliceRun
import Derived.MapKept
import Derived.Maps.OwnSet
import Derived.Maps.OwnOps
import Derived.Deep.AppendLies
import Derived.Lib.Bytealg
import Derived.Deep.DeepCutAuto
import Derived.Laws.EntriesVeiled
import Derived.Deep.RegionWith
import Derived.Deep.OwnRows
import Derived.RangeFuncNested
import Derived.RangeFuncBound
import Derived.RangeFuncCalls
import Derived.RangeFuncLeaves
import Derived.OwnWalkIn
import Derived.TacticsInMore
import Derived.LoopNIn
import Derived.LoopIn
import Derived.Stop.RegionWithIn
import Derived.Shelf.Abstract
import Derived.Deep.LoopGhost
import Derived.Deep.DrawnRows
import Derived.Test.YtfajkmmmmmfhiaaGreatDoorM12
import Derived.Test.YtfajkmmmmmfhiaaGreatDoorM09
import Derived.Test.YtfajkmmmmmfhiaaGreatDoorM15
import Derived.Deep.AppendSrc
import Derived.Test.YtfajkmmmmmfhiaaGreatDoorM14
import Derived.Sort.QuietThIn
import Derived.Maps.RangeWalk
import Derived.Lib.SlicesCompact
import Derived.Shelf.Sort.Plain
import Derived.Shelf.Slices.CompactI
import Derived.Shelf.Slices.In.SortNone
import Derived.Shelf.Strconv.Itoa3
import Derived.Shelf.Strings.BuilderK
import Derived.Shelf.Slices.SearchI
import Derived.Shelf.Slices.Empties
import Derived.Sort.OwnSortedInts
import Derived.RangeFuncBox
import Derived.Maps.OwnIn
import Derived.Lib.RowBridge
import Derived.Test.YtfajkmmmmmfhiaaGreatDoorM16
import Derived.Test.YtfajkmmmmmfhiaaGreatDoorM13
import Derived.Test.YtfajkmmmmmfhiaaGreatDoorM08
import Derived.Test.YtfajkmmmmmfhiaaGreatDoorM11
import Derived.Test.YtfajkmmmmmfhiaaGreatDoorM17
import Derived.Test.YtfajkmmmmmfhiaaGreatDoorM10
import Derived.Lib.ItoaNum

namespace Go.Proofs.YtfajkmmmmmfhiaaGreatDoor
open Go.RowKit
section
variable {P : Program} {ops : Array Oper} {w0 : World} {Cl : Nat → World → Prop} {Φ : Nat → List Value → Value → Nat → Nat → World → Prop} {ism : Nat → Bool} {D : Nat → Nat → Bool} {E : Act → World → Prop} {Q : Exit → Act → World → Prop} {a : Act} {o : Oper} {rest : List Oper} {i : Nat} {F : List (Nat × (World → Prop))} {I : List (Nat × Nat)}
theorem wp_region_tail' {id : Nat} {w : World} {l : List Oper} (n : Nat) (C' : World → Prop) (Φ : Nat → List Value → Value → Nat → Nat → World → Prop) (ism : Nat → Bool) (hm : P.follows .mixedOrders = true) (hB : chk l.toArray (masks l) = true) (hT : chkTail l (masks l) n ism = true)
    (hC : ∀ w', Below w.heap.size w w' → C' w')
    (hΦ : ∀ i args v lo hi w w', Φ i args v lo hi w → Below w.heap.size w w' → Φ i args v lo hi w')
    (h : walkP P l.toArray w (fun i w' => if lateB l (dm (masks l)) n i then C' w' else ∃ e : Ext w, w' = e.world) Φ ism (dm (masks l)) (tailW P l.toArray C' Q (l.drop n)) (l.take n) 0 a [] []) : (Code.region id l.toArray true).wp P Q a w := by
  refine wp_region_tail (masks l) n C' Φ ism hm hB hT hC hΦ ?_
  refine walkP_cl (fun i w' hw' => ?_) _ 0 a [] [] h
  split at hw'
  · rename_i hl; rw [if_pos hl]; exact hw'
  · rename_i hl; rw [if_neg hl]; exact ⟨⟨w', hw'⟩, rfl⟩
end
theorem sub_perm : ∀ {a b : List Int}, a.Nodup → (∀ x ∈ a, x ∈ b) → b.length ≤ a.length → a.Perm b
  | [], b, _, _, hl => by
    have : b = [] := List.eq_nil_of_length_eq_zero (by simpa using hl)
    rw [this]
  | x :: a, b, hn, h, hl => by
    rw [List.nodup_cons] at hn
    have hx := h x (by simp)
    have h2 := sub_perm (b := b.erase x) hn.2 (fun y hy => (List.mem_erase_of_ne (fun (e : y = x) => hn.1 (e ▸ hy))).2 (h y (by simp [hy]))) (by
      rw [List.length_erase_of_mem hx]
      rw [List.length_cons] at hl
      omega)
    exact (h2.cons x).trans (List.perm_cons_erase hx).symm
theorem setQ_of {n : Int} {l : List Int} (hs : l.Pairwise (· < ·)) (hr : ∀ x ∈ l, 1 ≤ x ∧ x ≤ n) : setQ n l = true := by
  refine allR_true fun j hj => ?_
  have h1 := hr _ (ix_mem hj)
  unfold setTo
  rw [decide_eq_true h1, Bool.true_and]
  rw [List.pairwise_iff_getElem] at hs
  by_cases h0 : j = 0
  · subst h0; simp
  · have := hs (j - 1) j (by omega) hj (by omega)
    have e1 : ix l (j - 1) = l[j - 1] := by simp [ix, List.getD_eq_getElem?_getD, List.getElem?_eq_getElem (show j - 1 < l.length by omega)]
    have e2 : ix l j = l[j] := by simp [ix, List.getD_eq_getElem?_getD, List.getElem?_eq_getElem hj]
    simp [e1, e2, this]
theorem nowX_congr {p : GP} {T T' m : List Int} (h : ∀ x, x ∈ T ↔ x ∈ T') (k : Int) (l : List Int) : nowX p m T k l = nowX p m T' k l := by
  unfold nowX firR; simp only [derT_congr h]
def exrTo (p : GP) (m : List Int) : Nat → List WY
  | 0 => []
  | k + 1 => exrTo p m k ++ nowX p m (atomsY (exrTo p m k)) (k + 1) (leftX m (exrTo p m k))
theorem exrTo_sub (p : GP) (m : List Int) : ∀ k, ∀ y ∈ exrTo p m k, y.atom ∈ m
  | 0, y, h => by cases h
  | k + 1, y, h => by
    unfold exrTo at h
    rcases List.mem_append.1 h with h | h
    · exact exrTo_sub p m k y h
    · exact (List.mem_filter.1 (nowX_mem h).1).1
theorem doneX_mem {m : List Int} {ws : List WY} (h : ∀ y ∈ ws, y.atom ∈ m) (x : Int) : x ∈ doneX m ws ↔ x ∈ atomsY ws := by
  unfold doneX
  rw [List.mem_filter, decide_eq_true_eq]
  refine ⟨fun h => h.2, fun hx => ⟨?_, hx⟩⟩
  obtain ⟨y, hy, rfl⟩ := List.mem_map.1 hx
  exact h y hy
theorem nowX_level {p : GP} {m T : List Int} {k k' : Int} {l : List Int} (h : nowX p m T k l = []) : nowX p m T k' l = [] := by
  unfold nowX at h ⊢
  rw [List.filterMap_eq_nil_iff] at h ⊢
  intro a ha
  have := h a ha
  rw [Option.map_eq_none_iff] at this ⊢
  exact this
theorem exrTo_stay {p : GP} {m : List Int} {k : Nat} (h : nowX p m (atomsY (exrTo p m k)) (k + 1) (leftX m (exrTo p m k)) = []) : ∀ d, exrTo p m (k + d) = exrTo p m k
  | 0 => rfl
  | d + 1 => by
    have ih := exrTo_stay h d
    have h2 := nowX_level (k' := ((k + d : Nat) : Int) + 1) h
    rw [show exrTo p m (k + (d + 1)) = exrTo p m (k + d) ++ nowX p m (atomsY (exrTo p m (k + d))) (((k + d : Nat) : Int) + 1) (leftX m (exrTo p m (k + d))) from rfl, ih, h2, List.append_nil]
theorem expX_ref (p : GP) (m : List Int) : ∀ (f k : Nat), expX p m f (k + 1) (exrTo p m k) = ⟨exrTo p m (k + f), leftX m (exrTo p m (k + f))⟩
  | 0, k => rfl
  | f + 1, k => by
    have hc := nowX_congr (p := p) (m := m) (doneX_mem (exrTo_sub p m k)) ((k : Int) + 1) (leftX m (exrTo p m k))
    unfold expX
    rw [show ((k + 1 : Nat) : Int) = (k : Int) + 1 by omega, hc]
    split
    · rename_i h
      rw [exrTo_stay h (f + 1)]
    · have ih := expX_ref p m f (k + 1)
      rw [show k + (f + 1) = k + 1 + f by omega, ← ih]
      rfl
theorem explX_ref (p : GP) (m : List Int) : explX p m = ⟨exrTo p m m.length, leftX m (exrTo p m m.length)⟩ := by
  have := expX_ref p m m.length 0
  simp only [Nat.zero_add] at this
  exact this
def chkAt (p : GP) (m : List Int) (x : XP) (i : Nat) : Bool :=
  decide ((ixY x.whys i).atom ∈ m) && (!decide ((ixY x.whys i).atom ∈ x.rest) && (decide (1 ≤ (ixY x.whys i).level) && (decide (0 ≤ (ixY x.whys i).rule) && (decide ((ixY x.whys i).rule < p.rules.length) &&
    ((i == 0 || !(decide ((ixY x.whys i).level < (ixY x.whys (i - 1)).level) || (decide ((ixY x.whys (i - 1)).level = (ixY x.whys i).level) && decide ((ixY x.whys i).atom ≤ (ixY x.whys (i - 1)).atom)))) &&
      (allR x.whys.length (fun k => k == i || !decide ((ixY x.whys k).atom = (ixY x.whys i).atom)) && derT (lowY x.whys (ixY x.whys i).level) m (ixR p.rules (ixY x.whys i).rule.toNat) (ixY x.whys i).atom))))))
def chkR (p : GP) (m : List Int) (x : XP) : Bool :=
  setQ p.n x.rest && (decide (x.whys.length + x.rest.length = m.length) && (allR x.rest.length (fun i => decide (ix x.rest i ∈ m)) && allR x.whys.length (chkAt p m x)))
theorem ixY_mem {l : List WY} {i : Nat} (hi : i < l.length) : ixY l i ∈ l := by rw [ixY_get hi]; exact List.getElem_mem hi
theorem pairwise_step {l : List Int} (h : ∀ i, i + 1 < l.length → ix l i ≤ ix l (i + 1)) : l.Pairwise (· ≤ ·) := by
  rw [List.pairwise_iff_getElem]
  intro i j hi hj hij
  rw [← ix_get hi, ← ix_get hj]
  obtain ⟨d, rfl⟩ : ∃ d, j = i + d + 1 := ⟨j - i - 1, by omega⟩
  clear hij
  induction d with
  | zero => exact h i hj
  | succ d ih => exact Int.le_trans (ih (by omega)) (h (i + d + 1) hj)
theorem nodup_strict {l : List Int} (h : l.Pairwise (· ≤ ·)) (hn : l.Nodup) : l.Pairwise (· < ·) := by
  have := h.and hn
  exact this.imp fun ⟨h1, h2⟩ => Int.lt_iff_le_and_ne.2 ⟨h1, h2⟩
theorem chk_ref {p : GP} {m : List Int} (x : XP) (hv : validE p = 0) (hm : setQ p.n m = true) : chkX p m x = chkR p m x := by
  have hn := (validP hv).n
  have hms := setQ_sorted hm
  have hmn : m.Nodup := hms.imp fun h => Int.ne_of_lt h
  have hmr : ∀ x ∈ m, 1 ≤ x ∧ x ≤ (p.n.toNat : Int) := fun x hx => by have := setQ_rng hm hx; omega
  rw [Bool.eq_iff_iff]
  unfold chkX chkR
  simp only [Bool.and_eq_true, decide_eq_true_eq]
  constructor
  · rintro ⟨h1, h2, h3, h4, h5⟩
    have hnd : (x.rest ++ atomsY x.whys).Nodup := h2.nodup_iff.2 hmn
    rw [List.nodup_append] at hnd
    obtain ⟨n1, n2, n3⟩ := hnd
    have hs1 : ∀ a ∈ x.rest, a ∈ m := fun a ha => h2.subset (List.mem_append.2 (.inl ha))
    have hs2 : ∀ y ∈ x.whys, y.atom ∈ m := fun y hy => h2.subset (List.mem_append.2 (.inr (List.mem_map.2 ⟨y, hy, rfl⟩)))
    have hlv : ∀ y ∈ x.whys, 1 ≤ y.level := fun y hy => by
      obtain ⟨i, hi, rfl⟩ := mem_ixY hy
      have := allR_get h1 i hi
      unfold rngY at this
      simp only [Bool.and_eq_true, decide_eq_true_eq] at this
      exact this.2.2.2.2
    refine ⟨setQ_of (nodup_strict (pairwise_step fun i hi => of_decide_eq_true (allR_get h3 i (by omega))) n1) (fun a ha => setQ_rng hm (hs1 a ha)), ?_, ?_, ?_⟩
    · have := h2.length_eq
      rw [List.length_append] at this
      unfold atomsY at this
      rw [List.length_map] at this
      omega
    · exact allR_true fun i hi => decide_eq_true (hs1 _ (ix_mem hi))
    · refine allR_true fun i hi => ?_
      have r1 := allR_get h1 i hi
      unfold rngY at r1
      simp only [Bool.and_eq_true, decide_eq_true_eq] at r1
      have r5 := allR_get h5 i hi
      rw [derT_congr (lvT_low hmr n2 hs2 hlv)] at r5
      unfold chkAt
      simp only [Bool.and_eq_true, decide_eq_true_eq, Bool.not_eq_true', decide_eq_false_iff_not, Bool.or_eq_true, beq_iff_eq]
      have hinj : ∀ k, k < x.whys.length → (ixY x.whys k).atom = (ixY x.whys i).atom → k = i := fun k hk e => by
        have hk2 : k < (atomsY x.whys).length := by simpa [atomsY] using hk
        have hi2 : i < (atomsY x.whys).length := by simpa [atomsY] using hi
        refine (List.getElem_inj (h₀ := hk2) (h₁ := hi2) n2).1 ?_
        simp only [atomsY, List.getElem_map, ← ixY_get hk, ← ixY_get hi]
        exact e
      refine ⟨hs2 _ (ixY_mem hi), fun hc => n3 _ hc _ (List.mem_map.2 ⟨_, ixY_mem hi, rfl⟩) rfl, r1.2.2.2.2, r1.2.2.1, r1.2.2.2.1, ?_, ?_, r5⟩
      · by_cases h0 : i = 0
        · exact .inl h0
        · refine .inr ?_
          have r4 := allR_get h4 (i - 1) (by omega)
          rw [show i - 1 + 1 = i by omega] at r4
          unfold ordY at r4
          simp only [Bool.or_eq_true, Bool.and_eq_true, decide_eq_true_eq] at r4
          have hne : (ixY x.whys (i - 1)).atom ≠ (ixY x.whys i).atom := fun e => by have := hinj (i - 1) (by omega) e; omega
          simp only [Bool.or_eq_false_iff, Bool.and_eq_false_iff, decide_eq_false_iff_not]
          omega
      · refine allR_true fun k hk => ?_
        by_cases e : k = i
        · simp [e]
        · have : (ixY x.whys k).atom ≠ (ixY x.whys i).atom := fun e2 => e (hinj k hk e2)
          simp [this]
  · rintro ⟨h1, h2, h3, h4⟩
    have hat : ∀ i, i < x.whys.length → _ := fun i hi => by
      have := allR_get h4 i hi
      unfold chkAt at this
      simp only [Bool.and_eq_true, decide_eq_true_eq, Bool.not_eq_true', decide_eq_false_iff_not, Bool.or_eq_true, beq_iff_eq] at this
      exact this
    have n1 : x.rest.Nodup := (setQ_sorted h1).imp fun h => Int.ne_of_lt h
    have n2 : (atomsY x.whys).Nodup := by
      unfold List.Nodup
      rw [List.pairwise_iff_getElem]
      intro i j hi hj hij e
      simp only [atomsY, List.length_map] at hi hj
      simp only [atomsY, List.getElem_map, ← ixY_get hi, ← ixY_get hj] at e
      have := allR_get (hat i hi).2.2.2.2.2.2.1 j hj
      rw [Bool.or_eq_true, beq_iff_eq, Bool.not_eq_true', decide_eq_false_iff_not] at this
      rcases this with h | h
      · omega
      · exact h e.symm
    have hs1 : ∀ a ∈ x.rest, a ∈ m := fun a ha => by
      obtain ⟨j, hj, rfl⟩ := mem_ix.1 ha
      exact of_decide_eq_true (allR_get h3 j hj)
    have hs2 : ∀ y ∈ x.whys, y.atom ∈ m := fun y hy => by
      obtain ⟨i, hi, rfl⟩ := mem_ixY hy
      exact (hat i hi).1
    have hlv : ∀ y ∈ x.whys, 1 ≤ y.level := fun y hy => by
      obtain ⟨i, hi, rfl⟩ := mem_ixY hy
      exact (hat i hi).2.2.1
    have hnd : (x.rest ++ atomsY x.whys).Nodup := by
      rw [List.nodup_append]
      refine ⟨n1, n2, fun a ha b hb e => ?_⟩
      subst e
      obtain ⟨y, hy, rfl⟩ := List.mem_map.1 hb
      obtain ⟨i, hi, rfl⟩ := mem_ixY hy
      exact (hat i hi).2.1 ha
    refine ⟨?_, ?_, ?_, ?_, ?_⟩
    · refine allR_true fun i hi => ?_
      have r := hat i hi
      have := hmr _ r.1
      unfold rngY
      simp only [Bool.and_eq_true, decide_eq_true_eq]
      exact ⟨this.1, by omega, r.2.2.2.1, r.2.2.2.2.1, r.2.2.1⟩
    · refine sub_perm hnd (fun a ha => ?_) ?_
      · rcases List.mem_append.1 ha with ha | ha
        · exact hs1 a ha
        · obtain ⟨y, hy, rfl⟩ := List.mem_map.1 ha
          exact hs2 y hy
      · rw [List.length_append]; unfold atomsY; rw [List.length_map]; omega
    · refine allR_true fun i hi => decide_eq_true ?_
      have := List.pairwise_iff_getElem.1 (setQ_sorted h1) i (i + 1) (by omega) (by omega) (by omega)
      rw [← ix_get (show i < x.rest.length by omega), ← ix_get (show i + 1 < x.rest.length by omega)] at this
      omega
    · refine allR_true fun i hi => ?_
      have r := (hat (i + 1) (by omega)).2.2.2.2.2.1
      rcases r with r | r
      · omega
      · simp only [Nat.add_sub_cancel, Bool.or_eq_false_iff, Bool.and_eq_false_iff, decide_eq_false_iff_not] at r
        unfold ordY
        simp only [Bool.or_eq_true, Bool.and_eq_true, decide_eq_true_eq]
        omega
    · refine allR_true fun i hi => ?_
      rw [derT_congr (lvT_low hmr n2 hs2 hlv)]
      exact (hat i hi).2.2.2.2.2.2.2
theorem firR_some {p : GP} {m T : List Int} {a : Int} {i : Nat} (h : firR p m T a = some i) : i < p.rules.length ∧ derT T m (ixR p.rules i) a = true := by
  unfold firR at h
  have h1 := List.mem_of_find?_eq_some h
  have h2 := List.find?_some h
  exact ⟨List.mem_range.1 h1, h2⟩
theorem atoms_app (a b : List WY) : atomsY (a ++ b) = atomsY a ++ atomsY b := by simp [atomsY]
theorem exrTo_lev (p : GP) (m : List Int) : ∀ k, ∀ y ∈ exrTo p m k, 1 ≤ y.level ∧ y.level ≤ k
  | 0, y, h => by cases h
  | k + 1, y, h => by
    unfold exrTo at h
    rcases List.mem_append.1 h with h | h
    · have := exrTo_lev p m k y h; omega
    · have := (nowX_mem h).2.1; omega
theorem exrTo_der (p : GP) (m : List Int) : ∀ k, ∀ y ∈ exrTo p m k, ∃ j i : Nat, j < k ∧ y.level = (j : Int) + 1 ∧ y.rule = i ∧ firR p m (atomsY (exrTo p m j)) y.atom = some i
  | 0, y, h => by cases h
  | k + 1, y, h => by
    unfold exrTo at h
    rcases List.mem_append.1 h with h | h
    · obtain ⟨j, i, h1, h2⟩ := exrTo_der p m k y h
      exact ⟨j, i, by omega, h2⟩
    · obtain ⟨-, h2, i, h3, h4⟩ := nowX_mem h
      exact ⟨k, i, by omega, h2, h4, h3⟩
theorem exrTo_pre (p : GP) (m : List Int) {j : Nat} : ∀ d, ∀ y, y ∈ exrTo p m (j + d) → (y ∈ exrTo p m j ∨ (j : Int) < y.level)
  | 0, y, h => .inl h
  | d + 1, y, h => by
    rw [show j + (d + 1) = (j + d) + 1 by omega] at h
    unfold exrTo at h
    rcases List.mem_append.1 h with h | h
    · exact exrTo_pre p m d y h
    · have := (nowX_mem h).2.1; right; omega
theorem exrTo_mono (p : GP) (m : List Int) {j : Nat} : ∀ d, ∀ y ∈ exrTo p m j, y ∈ exrTo p m (j + d)
  | 0, y, h => h
  | d + 1, y, h => by
    rw [show j + (d + 1) = (j + d) + 1 by omega]
    unfold exrTo
    exact List.mem_append.2 (.inl (exrTo_mono p m d y h))
theorem exrTo_low (p : GP) (m : List Int) {j K : Nat} (h : j ≤ K) (x : Int) : x ∈ lowY (exrTo p m K) ((j : Int) + 1) ↔ x ∈ atomsY (exrTo p m j) := by
  obtain ⟨d, rfl⟩ : ∃ d, K = j + d := ⟨K - j, by omega⟩
  unfold lowY atomsY
  simp only [List.mem_map, List.mem_filter, decide_eq_true_eq]
  constructor
  · rintro ⟨y, ⟨h1, h2⟩, rfl⟩
    rcases exrTo_pre p m d y h1 with h3 | h3
    · exact ⟨y, h3, rfl⟩
    · omega
  · rintro ⟨y, h1, rfl⟩
    have := exrTo_lev p m j y h1
    exact ⟨y, ⟨exrTo_mono p m d y h1, by omega⟩, rfl⟩
theorem exrTo_nod (p : GP) {m : List Int} (hm : m.Nodup) : ∀ k, (atomsY (exrTo p m k)).Nodup
  | 0 => List.nodup_nil
  | k + 1 => by
    have ih := exrTo_nod p hm k
    have hsub := nowX_atoms p m (atomsY (exrTo p m k)) (k + 1) (leftX m (exrTo p m k))
    unfold exrTo
    rw [atoms_app, List.nodup_append]
    refine ⟨ih, (hm.sublist List.filter_sublist).sublist hsub, fun a ha b hb e => ?_⟩
    subst e
    have := (List.mem_filter.1 (hsub.subset hb)).2
    exact (of_decide_eq_true this) ha
theorem nowX_sorted {p : GP} {m T : List Int} {k : Int} {l : List Int} (h : l.Pairwise (· < ·)) : (nowX p m T k l).Pairwise (fun a b => a.atom < b.atom) := by
  have h2 := h.sublist (nowX_atoms p m T k l)
  unfold atomsY at h2
  exact List.pairwise_map.1 h2
theorem exrTo_ord (p : GP) {m : List Int} (hm : m.Pairwise (· < ·)) : ∀ k, (exrTo p m k).Pairwise (fun a b => a.level < b.level ∨ (a.level = b.level ∧ a.atom < b.atom))
  | 0 => List.Pairwise.nil
  | k + 1 => by
    unfold exrTo
    refine List.pairwise_append.2 ⟨exrTo_ord p hm k, ?_, fun a ha b hb => ?_⟩
    · have h1 := nowX_sorted (p := p) (m := m) (T := atomsY (exrTo p m k)) (k := (k : Int) + 1) (hm.filter fun a => decide (a ∉ atomsY (exrTo p m k)))
      refine h1.imp_of_mem fun {a b} ha hb h => .inr ⟨?_, h⟩
      rw [(nowX_mem ha).2.1, (nowX_mem hb).2.1]
    · have := exrTo_lev p m k a ha
      have := (nowX_mem hb).2.1
      left; omega
theorem expl_valid {p : GP} {m : List Int} (hv : validE p = 0) (hm : setQ p.n m = true) : chkX p m (explX p m) = true := by
  rw [chk_ref _ hv hm, explX_ref]
  have hms := setQ_sorted hm
  have hmn : m.Nodup := hms.imp fun h => Int.ne_of_lt h
  generalize hK : m.length = K
  have hsub := exrTo_sub p m K
  have hnod := exrTo_nod p hmn K
  unfold chkR
  simp only [Bool.and_eq_true, decide_eq_true_eq]
  refine ⟨setQ_of (hms.filter _) (fun x hx => setQ_rng hm (List.mem_filter.1 hx).1), ?_, ?_, ?_⟩
  · have hperm : (leftX m (exrTo p m K) ++ doneX m (exrTo p m K)).Perm m := by
      refine List.perm_append_comm.trans ?_
      unfold leftX doneX
      have := List.filter_append_perm (fun a => decide (a ∈ atomsY (exrTo p m K))) m
      simpa using this
    have hd : (doneX m (exrTo p m K)).Perm (atomsY (exrTo p m K)) := by
      refine sub_perm (hmn.sublist List.filter_sublist) (fun x hx => (doneX_mem hsub x).1 hx) ?_
      exact sub_len hnod fun x hx => (doneX_mem hsub x).2 hx
    have h1 := hperm.length_eq
    have h2 := hd.length_eq
    rw [List.length_append] at h1
    unfold atomsY at h2
    rw [List.length_map] at h2
    omega
  · exact allR_true fun i hi => decide_eq_true (List.mem_filter.1 (ix_mem hi)).1
  · refine allR_true fun i hi => ?_
    have hy := ixY_mem hi
    obtain ⟨j, q, h1, h2, h3, h4⟩ := exrTo_der p m K _ hy
    obtain ⟨h5, h6⟩ := firR_some h4
    have hl := exrTo_lev p m K _ hy
    unfold chkAt
    dsimp only at hi ⊢
    simp only [Bool.and_eq_true, decide_eq_true_eq, Bool.not_eq_true', decide_eq_false_iff_not, Bool.or_eq_true, beq_iff_eq]
    refine ⟨hsub _ hy, fun hc => ?_, hl.1, by omega, by omega, ?_, ?_, ?_⟩
    · have := (List.mem_filter.1 hc).2
      exact (of_decide_eq_true this) (List.mem_map.2 ⟨_, hy, rfl⟩)
    · by_cases h0 : i = 0
      · exact .inl h0
      · refine .inr ?_
        have := List.pairwise_iff_getElem.1 (exrTo_ord p hms K) (i - 1) i (by omega) hi (by omega)
        rw [← ixY_get (show i - 1 < _ by omega), ← ixY_get hi] at this
        simp only [Bool.or_eq_false_iff, Bool.and_eq_false_iff, decide_eq_false_iff_not]
        omega
    · refine allR_true fun k hk => ?_
      by_cases e : k = i
      · simp [e]
      · have : (ixY (exrTo p m K) k).atom ≠ (ixY (exrTo p m K) i).atom := fun e2 => e (by
          have hk2 : k < (atomsY (exrTo p m K)).length := by simpa [atomsY] using hk
          have hi2 : i < (atomsY (exrTo p m K)).length := by simpa [atomsY] using hi
          refine (List.getElem_inj (h₀ := hk2) (h₁ := hi2) hnod).1 ?_
          simp only [atomsY, List.getElem_map, ← ixY_get hk, ← ixY_get hi]
          exact e2)
        simp [this]
    · rw [h2, h3, derT_congr (exrTo_low p m (by omega)), Int.toNat_natCast]
      exact h6
theorem xE_no {p : GP} {m : List Int} (hv : validE p = 0) (hm : setQ p.n m = true) (hmod : modelsB p m = false) : xE p m = 410 := by
  unfold xE; rw [if_neg (by simp [hv]), if_pos hm, if_neg (by rw [hmod]; exact Bool.false_ne_true)]
section
variable {v vset vx : Value} {p : GP} {m : List Int} {x : XP} {w : World}
theorem check_ok {c : Bool} (hE : xE p m = 0) (hc : chkX p m x = c) (h : ProgIs w v p) (hm : Ints w vset m) (hx : ExplIs w vx x) (hl : x.whys.length ≤ 500) :
    Calls Tryz.prog 15 #[v, vset, vx] w fun e w' => e = .returned (.tuple #[.bool c, .int .i64 0]) ∧ Below w.heap.size w w' := by
  have := checkX_any v vset vx p m x w h hm hx hl
  rw [hE, hc] at this
  simpa using this
theorem expl_ok {L : List WY} {R : List Int} (hE : xE p m = 0) (hX : explX p m = ⟨L, R⟩) (h : ProgIs w v p) (hm : Ints w vset m) :
    Calls Tryz.prog 14 #[v, vset] w fun e w' => ∃ a1 c1 a2 c2, e = .returned (.tuple #[.agg #[.slice a1 L.length c1, .slice a2 R.length c2], .int .i64 0]) ∧ MineY w.heap.size (.slice a1 L.length c1) L w' ∧ QRow w.heap.size w' (.slice a2 R.length c2) R ∧ Below w.heap.size w w' := by
  refine (explain_any v vset p m w h hm).mono ?_
  rintro e w' ⟨vx, rfl, ⟨vw, vr, rfl, h1, h2⟩, hb⟩
  rw [if_pos hE, hX] at h1 h2
  rw [hE]
  obtain ⟨a1, c1, rfl⟩ := h1.slen
  obtain ⟨a2, c2, rfl⟩ := h2.slen
  exact ⟨a1, c1, a2, c2, rfl, h1.mono (by omega), h2.mono (by omega), hb⟩
theorem expl_no (hE : xE p m = 410) (h : ProgIs w v p) (hm : Ints w vset m) :
    Calls Tryz.prog 14 #[v, vset] w fun e w' => ∃ a1 c1 a2 c2, e = .returned (.tuple #[.agg #[.slice a1 0 c1, .slice a2 0 c2], .int .i64 410]) ∧ Below w.heap.size w w' := by
  refine (explain_any v vset p m w h hm).mono ?_
  rintro e w' ⟨vx, rfl, ⟨vw, vr, rfl, h1, h2⟩, hb⟩
  rw [if_neg (by rw [hE]; decide)] at h1 h2
  rw [hE]
  obtain ⟨a1, c1, rfl⟩ := h1.slen
  obtain ⟨a2, c2, rfl⟩ := h2.slen
  exact ⟨a1, c1, a2, c2, rfl, hb⟩
end
end Go.Proofs.YtfajkmmmmmfhiaaGreatDoor
