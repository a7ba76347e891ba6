/- My texts Vr1, Range, Nrm0, PermJ, NrmR, merged. -/
import Derived.Test.YteblddnoegbalaaGreatM07
import Derived.Test.YteblddnoegbalaaGreatM06
import Derived.Test.YteblddnoegbalaaGreatM05
import Derived.Test.YteblddnoegbalaaGreatM04
import Derived.Test.YteblddnoegbalaaGreatM03
import Derived.Test.YteblddnoegbalaaGreatM00
import Derived.Test.YteblddnoegbalaaGreatProg
import Derived.WalkKit
import Derived.Lib.Hide
import Derived.Deep.QuietTactic
import Derived.BigQuiet
import Derived.WalkSpells
import Derived.Lib.SliceRun
import Derived.MapKept
import Derived.Maps.OwnSet
import Derived.Maps.OwnOps
import Derived.Test.YteblddnoegbalaaGreatM02
import Derived.Test.YteblddnoegbalaaGreatM01
import Derived.Deep.AppendLies
import Derived.Lib.Bytealg
import Derived.Deep.DeepCutAuto
import Derived.RangeFuncNested
import Derived.RangeFuncBound
import Derived.RangeFuncCalls
import Derived.RangeFuncLeaves
import Derived.OwnWalkIn
import Derived.TacticsInMore
import Derived.LoopNIn
import Derived.LoopIn
import Derived.Stop.RegionWithIn
import Derived.Shelf.Abstract
import Derived.Sort.QuietThIn
import Derived.RangeFuncBox
import Derived.Maps.OwnIn
import Derived.Lib.SlicesCompact
import Derived.Shelf.Sort.Plain
import Derived.Shelf.Slices.CompactI
import Derived.Shelf.Slices.In.SortNone
import Derived.Shelf.Strconv.Itoa3
import Derived.Shelf.Strings.BuilderK
import Derived.Shelf.Slices.SearchI
import Derived.Shelf.Slices.Empties
import Derived.Sort.OwnSortedInts
import Derived.Lib.RowBridge
import Derived.Maps.RangeWalk

namespace Go.Proofs.YteblddnoegbalaaGreat
theorem sumW_take (t : Int → Bool) {L K : List Int} (hl : L.length = K.length) : ∀ i, i ≤ L.length → sumW t ((L.zip K).take i) = sumLK t L K i
  | 0, _ => rfl
  | i + 1, hi => by rw [zip_take (by omega) hl, sumW_snoc, sumW_take t hl i (by omega)]; rfl
theorem sumP_take {L K : List Int} (hl : L.length = K.length) : ∀ i, i ≤ L.length → sumP ((L.zip K).take i) = sumTo K i
  | 0, _ => rfl
  | i + 1, hi => by rw [zip_take (by omega) hl, sumP_snoc, sumP_take hl i (by omega)]; rfl
theorem zip_all {L K : List Int} (hl : L.length = K.length) : (L.zip K).take L.length = L.zip K := List.take_of_length_le (by rw [List.length_zip]; omega)
theorem sumW_LK (t : Int → Bool) {L K : List Int} (hl : L.length = K.length) : sumW t (L.zip K) = sumLK t L K L.length := by
  rw [← sumW_take t hl _ (Nat.le_refl _), zip_all hl]
theorem sumP_To {L K : List Int} (hl : L.length = K.length) : sumP (L.zip K) = sumTo K L.length := by
  rw [← sumP_take hl _ (Nat.le_refl _), zip_all hl]
def negP (c : PBC) : PBC × Int := if pbV c then normP (negL c.lits) c.coefs (sumP (c.lits.zip c.coefs) - c.bound + 1) else (⟨[], [], 0⟩, 2)
theorem negP_ok {c : PBC} (h : (negP c).2 = 0) : pbV c = true ∧ normP (negL c.lits) c.coefs (sumP (c.lits.zip c.coefs) - c.bound + 1) = ((negP c).1, 0) := by
  unfold negP at h ⊢
  split at h
  · next hv =>
    rw [if_pos hv]
    exact ⟨hv, by rw [← h]⟩
  · exact absurd h (by decide)
theorem neg_valid {c : PBC} (h : (negP c).2 = 0) : pbV (negP c).1 = true := normP_valid (negP_ok h).2
theorem neg_sat {t : Int → Bool} (ht : Tot t) {c : PBC} (h : (negP c).2 = 0) : satC t (negP c).1 = !satC t c := by
  obtain ⟨hv, hn⟩ := negP_ok h
  have hl := (pbV_parts hv).1
  have h0 : ∀ j, j < c.lits.length → ix c.lits j ≠ 0 := fun j hj => (pbV_lits hv (x := (ix c.lits j, ix c.coefs j)) (List.mem_of_getElem? (zip_at hj hl))).1
  have hs := normP_sat ht hn
  rw [negL_len, sumLK_neg ht _ (Nat.le_refl _) h0, sumP_To hl] at hs
  have hc : satC t c = decide (c.bound ≤ sumLK t c.lits c.coefs c.lits.length) := by unfold satC; rw [sumW_LK t hl]
  rw [hc]
  cases hb : satC t (negP c).1 with
  | true =>
    have := hs.1 hb
    rw [decide_eq_false (by omega)]
    rfl
  | false =>
    have : ¬ _ := fun e => by rw [hs.2 e] at hb; cases hb
    rw [decide_eq_true (by omega)]
    rfl
noncomputable def rupB (db : List PBC) (c : PBC) : Bool := db.all pbV && (decide ((negP c).2 = 0) && failB (db ++ [(negP c).1]))
theorem rupB_iff {db : List PBC} {c : PBC} : rupB db c = true ↔ (∀ d ∈ db, pbV d = true) ∧ (negP c).2 = 0 ∧ failB (db ++ [(negP c).1]) = true := by
  unfold rupB
  simp only [Bool.and_eq_true, List.all_eq_true, decide_eq_true_eq]
theorem rup_sound {t : Int → Bool} (ht : Tot t) {db : List PBC} {c : PBC} (h : rupB db c = true) (hs : ∀ d ∈ db, satC t d = true) : satC t c = true := by
  obtain ⟨h1, h2, h3⟩ := rupB_iff.1 h
  obtain ⟨d, hd, e⟩ := fail_sound ht (fun d hd => by
    rcases List.mem_append.1 hd with hd | hd
    · exact h1 d hd
    · rw [List.mem_singleton.1 hd]; exact neg_valid h2) h3
  rcases List.mem_append.1 hd with hd | hd
  · rw [hs d hd] at e; cases e
  · rw [List.mem_singleton.1 hd, neg_sat ht h2] at e
    simpa using e
theorem clo_contra (f : Int → Int) : ¬ CloC f ⟨[], [], 1⟩ := fun h => by
  have := h.1
  simp [nnS, sumW] at this
theorem rup_contra {db : List PBC} {c : PBC} (hv : ∀ d ∈ db, pbV d = true) (hc : (negP c).2 = 0) (h : ⟨[], [], 1⟩ ∈ db) : rupB db c = true := by
  refine rupB_iff.2 ⟨hv, hc, failB_true.2 ?_⟩
  rintro ⟨f, -, hf⟩
  exact clo_contra f (hf _ (List.mem_append.2 (.inl h)))
theorem keys_abs36 : ∀ {L : List Int}, L.Pairwise (fun x y => x.natAbs < y.natAbs) → keysOf L = L.map fun l => (l.natAbs : Int) := fun {L} h => by
  refine sorted_eqP (keys_sorted L) (List.pairwise_map.2 (h.imp fun h => by omega)) fun x => ?_
  rw [mem_keys, List.mem_map]
theorem byTo_at36 {L K : List Int} (h : L.Pairwise (fun x y => x.natAbs < y.natAbs)) (h0 : ∀ l ∈ L, l ≠ 0) : ∀ {i j : Nat}, i ≤ L.length → j < L.length →
    byTo L K ((ix L j).natAbs : Int) i = if j < i then (if 0 < ix L j then ix K j else -ix K j) else 0
  | 0, j, _, _ => rfl
  | i + 1, j, hi, hj => by
    have ih := byTo_at36 (K := K) h h0 (i := i) (by omega) hj
    have hz : ∀ k, k < L.length → ix L k ≠ 0 := fun k hk => h0 _ (ix_mem hk)
    rw [byTo_succ, ih]
    by_cases e : j = i
    · subst e
      rw [if_neg (Nat.lt_irrefl _), if_pos (Nat.lt_succ_self _)]
      have := hz j hj
      by_cases h1 : 0 < ix L j
      · rw [if_pos (by omega), if_pos h1]; omega
      · rw [if_neg (by omega), if_pos (by omega), if_neg h1]; omega
    · have hne : (ix L i).natAbs ≠ (ix L j).natAbs := by
        have hp := List.pairwise_iff_getElem.1 h
        rw [ix_get (show i < L.length by omega), ix_get hj]
        rcases Nat.lt_or_gt_of_ne e with h1 | h1
        · have := hp j i hj (by omega) h1; omega
        · have := hp i j (by omega) hj h1; omega
      have n1 : ¬ ix L i = ((ix L j).natAbs : Int) := by omega
      have n2 : ¬ ix L i = -((ix L j).natAbs : Int) := by omega
      rw [if_neg n1, if_neg n2, Int.add_zero]
      by_cases h1 : j < i
      · rw [if_pos h1, if_pos (show j < i + 1 by omega)]
      · rw [if_neg h1, if_neg (show ¬ j < i + 1 by omega)]
theorem byTo_full {L K : List Int} (h : L.Pairwise (fun x y => x.natAbs < y.natAbs)) (h0 : ∀ l ∈ L, l ≠ 0) {j : Nat} (hj : j < L.length) :
    byTo L K ((ix L j).natAbs : Int) L.length = if 0 < ix L j then ix K j else -ix K j := by
  rw [byTo_at36 h h0 (Nat.le_refl _) hj, if_pos hj]
theorem neg_low36 {L K : List Int} (h : L.Pairwise (fun x y => x.natAbs < y.natAbs)) (h0 : ∀ l ∈ L, l ≠ 0) (hK : ∀ j, j < L.length → 1 ≤ ix K j) : ∀ i, i ≤ L.length →
    negTo L K i + sumI (fun v => lowI (byTo L K v L.length)) ((L.map fun l => (l.natAbs : Int)).take i) = 0
  | 0, _ => rfl
  | i + 1, hi => by
    have ih := neg_low36 h h0 hK i (by omega)
    have hk := hK i (by omega)
    have hb := byTo_full (K := K) h h0 (show i < L.length by omega)
    have hz := h0 _ (ix_mem (show i < L.length by omega))
    have ht : (L.map fun l => (l.natAbs : Int)).take (i + 1) = (L.map fun l => (l.natAbs : Int)).take i ++ [((ix L i).natAbs : Int)] := by
      rw [List.take_add_one]
      congr 1
      rw [List.getElem?_map, List.getElem?_eq_getElem (show i < L.length by omega), ix_get (show i < L.length by omega)]
      rfl
    have hlow : lowI (if 0 < ix L i then ix K i else -ix K i) = if ix L i < 0 then -ix K i else 0 := by
      unfold lowI
      by_cases h1 : 0 < ix L i
      · rw [if_pos h1, if_neg (by omega), if_neg (by omega)]
      · rw [if_neg h1, if_pos (by omega), if_pos (by omega)]
    rw [ht, sumI_snoc, hb, hlow]
    unfold negTo
    split <;> omega
theorem sumI_map36 (f : Int → Int) : ∀ V : List Int, sumI f V = sumI (fun x => x) (V.map f)
  | [] => rfl
  | v :: V => by simp only [List.map_cons, sumI, sumI_map36 f V]
theorem normP_id {L K : List Int} {B : Int} (h : L.Pairwise (fun x y => x.natAbs < y.natAbs)) (hp : ∀ l ∈ L, plitB l = true) (hK : ∀ j, j < L.length → 1 ≤ ix K j ∧ ix K j ≤ 16777216) (hl : L.length = K.length) (h65 : L.length ≤ 65536) (hB : 0 < B ∧ B ≤ 16777216) :
    normP L K B = if sumI (fun x => x) (K.map fun k => minI k B) < B then (⟨[], [], 1⟩, 0) else (⟨L, K.map fun k => minI k B, B⟩, 0) := by
  have h0 : ∀ l ∈ L, l ≠ 0 := fun l hl => by have := hp l hl; unfold plitB at this; rw [decide_eq_true_eq] at this; exact this.1
  have hk := keys_abs36 h
  have hall : allR L.length (pokAt L K) = true := allR_true fun j hj => by
    unfold pokAt
    rw [hp _ (ix_mem hj), decide_eq_true (by have := hK j hj; omega)]
    rfl
  have hby : ∀ {j}, j < L.length → byTo L K ((ix L j).natAbs : Int) L.length = if 0 < ix L j then ix K j else -ix K j := fun hj => byTo_full h h0 hj
  have hf : (keysOf L).filter (fun v => byTo L K v L.length != 0) = keysOf L := by
    rw [List.filter_eq_self]
    intro v hv
    rw [hk] at hv
    obtain ⟨l, hl', rfl⟩ := List.mem_map.1 hv
    obtain ⟨j, hj, rfl⟩ := mem_ix.1 hl'
    rw [hby hj]
    have := hK j hj
    simp only [bne_iff_ne, ne_eq]
    split <;> omega
  have hbd : B - negTo L K L.length - sumI (fun v => lowI (byTo L K v L.length)) (keysOf L) = B := by
    have := neg_low36 h h0 (fun j hj => (hK j hj).1) L.length (Nat.le_refl _)
    rw [List.take_of_length_le (by simp)] at this
    rw [hk]
    omega
  have hm : (keysOf L).map (fun v => minI (absI (byTo L K v L.length)) B) = K.map fun k => minI k B := by
    rw [hk, List.map_map]
    refine List.ext_getElem (by simp [hl]) fun j h1 h2 => ?_
    have hj : j < L.length := by simpa using h1
    rw [List.getElem_map, List.getElem_map]
    have := hby hj
    rw [ix_get hj] at this
    show minI (absI (byTo L K ((L[j]).natAbs : Int) L.length)) B = _
    rw [this, ix_get (show j < K.length by omega)]
    have := (hK j hj).1
    rw [ix_get (show j < K.length by omega)] at this
    congr 1
    unfold absI
    split <;> split <;> omega
  have hlit : (keysOf L).map (litOf fun v => byTo L K v L.length) = L := by
    rw [hk, List.map_map]
    refine List.ext_getElem (by simp) fun j h1 h2 => ?_
    rw [List.getElem_map]
    have := hby h2
    rw [ix_get h2] at this
    have h3 := (hK j h2).1
    have h4 := h0 _ (List.getElem_mem h2)
    show (if byTo L K ((L[j]).natAbs : Int) L.length < 0 then -((L[j]).natAbs : Int) else ((L[j]).natAbs : Int)) = L[j]
    by_cases h5 : 0 < L[j]
    · rw [if_pos h5] at this
      rw [if_neg (by omega)]; omega
    · rw [if_neg h5] at this
      rw [if_pos (by omega)]; omega
  unfold normP
  rw [if_neg (by omega), hall, if_neg (by simp), hbd, hf]
  unfold normC
  rw [if_neg (by omega), sumI_map36, hm, hlit]
  split
  · rfl
  · rw [if_neg (by omega)]
theorem okF_pair {bd : Int} : ∀ {l : List (Int × Int)} {last : Int}, okF bd last l = true → (∀ x ∈ l, last < (x.1.natAbs : Int)) ∧ l.Pairwise (fun x y => x.1.natAbs < y.1.natAbs)
  | [], _, _ => ⟨fun x hx => (by cases hx), List.Pairwise.nil⟩
  | y :: l, last, h => by
    unfold okF chkB at h
    simp only [Bool.and_eq_true, decide_eq_true_eq] at h
    obtain ⟨h1, h2⟩ := okF_pair h.2
    refine ⟨fun x hx => ?_, .cons (fun x hx => by have := h1 x hx; omega) h2⟩
    rcases List.mem_cons.1 hx with rfl | hx
    · exact h.1.1.1.2
    · have := h1 x hx; have := h.1.1.1.2; omega
theorem okF_sorted36 {bd : Int} {L K : List Int} (hl : L.length = K.length) (h : okF bd 0 (L.zip K) = true) : L.Pairwise (fun x y => x.natAbs < y.natAbs) := by
  have h1 := (okF_pair h).2
  have e : L = (L.zip K).map Prod.fst := (List.map_fst_zip (by omega)).symm
  rw [e, List.pairwise_map]
  exact h1
theorem sumLK_one {t : Int → Bool} {L K : List Int} : ∀ i, (∀ j, j < i → ix K j = 1) → sumLK t L K i ≤ i ∧ (∀ j, j < i → t (ix L j) = false → sumLK t L K i ≤ i - 1) ∧ ((∀ j, j < i → t (ix L j) = false) → sumLK t L K i = 0)
  | 0, _ => ⟨Int.le_refl _, fun j hj => absurd hj (Nat.not_lt_zero _), fun _ => rfl⟩
  | i + 1, h => by
    obtain ⟨h1, h2, h3⟩ := sumLK_one (t := t) (L := L) i fun j hj => h j (by omega)
    have hk := h i (by omega)
    unfold sumLK
    rw [hk]
    refine ⟨by split <;> omega, fun j hj e => ?_, fun e => ?_⟩
    · by_cases hji : j = i
      · subst hji
        rw [if_neg (by rw [e]; exact Bool.false_ne_true)]; omega
      · have := h2 j (by omega) e
        split <;> omega
    · rw [h3 fun j hj => e j (by omega), if_neg (by rw [e i (by omega)]; exact Bool.false_ne_true)]; rfl
theorem rup_self {db : List PBC} {c : PBC} (hv : ∀ d ∈ db, pbV d = true) (hc : c ∈ db) (hb : c.bound ≤ 1) : rupB db c = true := by
  have hcv := hv c hc
  obtain ⟨hl, hb0, -, hok, h65⟩ := pbV_parts hcv
  have hz : ∀ j, j < c.lits.length → ix c.lits j ≠ 0 ∧ (ix c.lits j).natAbs ≤ 65536 ∧ 1 ≤ ix c.coefs j ∧ ix c.coefs j ≤ c.bound := fun j hj => pbV_lits hcv (x := (ix c.lits j, ix c.coefs j)) (List.mem_of_getElem? (zip_at hj hl))
  by_cases hn : c.lits.length = 0
  · have e1 : c.lits = [] := List.length_eq_zero_iff.1 hn
    have e2 : c.coefs = [] := List.length_eq_zero_iff.1 (by omega)
    have hneg : negP c = (⟨[], [], 1 - c.bound⟩, 0) := by
      unfold negP
      rw [if_pos hcv, e1, e2]
      rcases (show c.bound = 0 ∨ c.bound = 1 by omega) with e | e <;> rw [e] <;> decide
    rcases (show c.bound = 0 ∨ c.bound = 1 by omega) with e | e
    · refine rupB_iff.2 ⟨hv, by rw [hneg], failB_true.2 ?_⟩
      rintro ⟨f, -, hf⟩
      have := hf _ (List.mem_append.2 (.inr (List.mem_singleton.2 rfl)))
      rw [hneg, e] at this
      exact clo_contra f this
    · have ec : c = ⟨[], [], 1⟩ := by cases c; simp_all
      exact rup_contra hv (by rw [hneg]) (ec ▸ hc)
  · have hb1 : c.bound = 1 := by have := hz 0 (by omega); omega
    have hones : ∀ j, j < c.lits.length → ix c.coefs j = 1 := fun j hj => by have := hz j hj; omega
    have hsum : sumP (c.lits.zip c.coefs) = c.lits.length := by
      rw [sumP_To hl]
      have key : ∀ i, i ≤ c.lits.length → sumTo c.coefs i = i := fun i => by
        induction i with
        | zero => intro _; rfl
        | succ i ih => intro hi; unfold sumTo; rw [ih (by omega), hones i (by omega)]; omega
      exact key _ (Nat.le_refl _)
    have hneg : negP c = (⟨negL c.lits, c.coefs, c.lits.length⟩, 0) := by
      unfold negP
      rw [if_pos hcv, hsum, hb1, show (c.lits.length : Int) - 1 + 1 = c.lits.length by omega]
      rw [normP_id]
      · rw [show (c.coefs.map fun k => minI k (c.lits.length : Int)) = c.coefs from ?_]
        · rw [if_neg]
          have : sumI (fun x => x) c.coefs = c.coefs.length := by
            have key : ∀ l : List Int, (∀ k ∈ l, k = 1) → sumI (fun x => x) l = l.length := fun l => by
              induction l with
              | nil => intro _; rfl
              | cons a l ih => intro h; unfold sumI; rw [ih fun k hk => h k (.tail _ hk), h a (.head _)]; simp; omega
            refine key _ fun k hk => ?_
            obtain ⟨j, hj, rfl⟩ := mem_ix.1 hk
            exact hones j (by omega)
          omega
        · refine (List.map_congr_left (g := id) fun k hk => ?_).trans (List.map_id _)
          obtain ⟨j, hj, rfl⟩ := mem_ix.1 hk
          rw [hones j (by omega)]
          unfold minI
          rw [if_pos (by omega)]
          rfl
      · unfold negL
        rw [List.pairwise_map]
        have hs : c.lits.Pairwise (fun x y => x.natAbs < y.natAbs) := okF_sorted36 hl hok
        exact hs.imp fun h => by omega
      · intro l hl'
        obtain ⟨y, hy, rfl⟩ := List.mem_map.1 hl'
        obtain ⟨j, hj, rfl⟩ := mem_ix.1 hy
        have := hz j hj
        unfold plitB
        rw [decide_eq_true_eq]
        omega
      · intro j hj
        rw [negL_len] at hj
        rw [hones j hj]
        omega
      · rw [negL_len]; exact hl
      · rw [negL_len]; omega
      · omega
    refine rupB_iff.2 ⟨hv, by rw [hneg], failB_true.2 ?_⟩
    rintro ⟨f, ho, hf⟩
    have f1 := hf c (List.mem_append.2 (.inl hc))
    have f2 := hf _ (List.mem_append.2 (.inr (List.mem_singleton.2 rfl)))
    rw [hneg] at f2
    have hl2 : (negL c.lits).length = c.coefs.length := by rw [negL_len]; exact hl
    have o1 := sumLK_one (t := fun x => decide (0 ≤ f x)) (L := negL c.lits) (K := c.coefs) c.lits.length hones
    have o2 := sumLK_one (t := fun x => decide (0 ≤ f x)) (L := c.lits) (K := c.coefs) c.lits.length hones
    have b1 := f1.1
    obtain ⟨b2, u2⟩ := f2
    unfold nnS at b1 b2 u2
    dsimp only at b2 u2
    rw [sumW_LK _ hl] at b1
    rw [sumW_LK _ hl2, negL_len] at b2 u2
    have hneg' : ∀ j, j < c.lits.length → f (ix c.lits j) < 0 := fun j hj => by
      have h1 : decide (0 ≤ f (ix (negL c.lits) j)) = true := by
        cases e : decide (0 ≤ f (ix (negL c.lits) j)) with
        | true => rfl
        | false => have := o1.2.1 j hj e; omega
      rw [decide_eq_true_eq] at h1
      have h2 : f (ix (negL c.lits) j) ≠ 0 := fun e => by
        have := u2 (ix (negL c.lits) j, ix c.coefs j) (List.mem_of_getElem? (zip_at (by rw [negL_len]; exact hj) hl2)) e
        dsimp only at this
        rw [hones j hj] at this
        have := o1.1
        omega
      rw [ix_neg hj, ho _ (hz j hj).1] at h1 h2
      omega
    have := o2.2.2 fun j hj => decide_eq_false (by have := hneg' j hj; omega)
    omega
end Go.Proofs.YteblddnoegbalaaGreat
namespace Go.Proofs.YteblddnoegbalaaGreat
open Go.RowKit Go.MapKept
open Go.ChangeMaps (setBlock)
def RangeIs {κ : Type} (kv : κ → Value) (w : World) (b r : Nat) (g : κ → Option Value) (left : κ → Bool) (cnt : Nat) : Prop :=
  ∃ es clock since seen c0, w.heap[b]? = some (.map es clock) ∧ Stamped es clock ∧ (∀ x ∈ es.toList, ∃ k, x.key = kv k) ∧ (∀ k v, g k = some v ↔ ∃ x ∈ es.toList, x.key = kv k ∧ x.val = v) ∧
    w.heap[r]? = some (.mapIter (some b) since seen c0) ∧ (∀ x ∈ es.toList, x.born < since) ∧ (leftOf es seen).size = cnt ∧
    (∀ x ∈ es.toList, ∀ k, x.key = kv k → left k = !seen.contains x.born) ∧ (∀ k, left k = true → ∃ v, g k = some v) ∧ since ≤ c0 ∧ since ≤ clock
section
variable {κ : Type} {kv : κ → Value} {P : Program} {w : World} {b r cnt : Nat} {g : κ → Option Value} {left : κ → Bool} {t kt et : TypeId}
theorem RangeIs.map (h : RangeIs kv w b r g left cnt) : MapIs kv w b g := by
  obtain ⟨es, clock, since, seen, c0, hb, hs, hk, hg, _⟩ := h
  exact ⟨es, clock, hb, hs, hk, hg⟩
theorem RangeIs.lt (h : RangeIs kv w b r g left cnt) : r < w.heap.size := by
  obtain ⟨es, clock, since, seen, c0, _, _, _, _, hr, _⟩ := h
  exact (Array.getElem?_eq_some_iff.1 hr).1
theorem RangeIs.same {w' : World} (h : RangeIs kv w b r g left cnt) (hb : w'.heap[b]? = w.heap[b]?) (hr : w'.heap[r]? = w.heap[r]?) : RangeIs kv w' b r g left cnt := by
  obtain ⟨es, clock, since, seen, c0, h1, h2, h3, h4, h5, rest⟩ := h
  exact ⟨es, clock, since, seen, c0, hb.trans h1, h2, h3, h4, hr.trans h5, rest⟩
theorem RangeIs.grown {w' : World} {row : Option Nat} (h : RangeIs kv w b r g left cnt) (hg : w.grownBy w' row) (hb : some b ≠ row) (hr : some r ≠ row) : RangeIs kv w' b r g left cnt :=
  h.same (hg.block b h.map.lt hb) (hg.block r h.lt hr)
theorem RangeIs.alloc (h : RangeIs kv w b r g left cnt) (o : Obj) : RangeIs kv (w.alloc o) b r g left cnt := h.same (Below.heap_alloc _ _ _ h.map.lt) (Below.heap_alloc _ _ _ h.lt)
theorem RangeIs.left_eq (h : RangeIs kv w b r g left cnt) : w.rangeLeft b r = cnt := by
  obtain ⟨es, clock, since, seen, c0, hb, _, _, _, hr, _, hc, _⟩ := h
  simp only [World.rangeLeft, hb, hr]
  exact hc
theorem MapIs.range (h : MapIs kv w b g) (ht : P.underlying t = some (.map kt et)) :
    ∃ w' cnt, (Instr.range t (.map (some b))).run P w = .ok (.pointer (some ⟨w.heap.size, 0, none⟩)) w' ∧ RangeIs kv w' b w.heap.size g (fun k => (g k).isSome) cnt ∧ w.grownBy w' none ∧ w'.heap.size = w.heap.size + 1 := by
  have hlt := h.lt
  obtain ⟨es, clock, hb, hs, hk, hg⟩ := h
  have hst := (stamped_iff es clock).1 hs
  refine ⟨_, _, run_range_map w t kt et b es clock ht hb, ⟨es, clock, clock, #[], clock, ((MapKept.heap_alloc w _).2 b hlt).trans hb, hs, hk, hg, (MapKept.heap_alloc w _).1, hst.1, rfl, ?_, ?_, Nat.le_refl _, Nat.le_refl _⟩, World.grownBy_alloc w _ none, by simp⟩
  · intro x hx k e
    have : g k = some x.val := (hg k _).2 ⟨x, hx, e, rfl⟩
    simp [this]
  · intro k hk'
    exact Option.isSome_iff_exists.1 hk'
theorem RangeIs.next [DecidableEq κ] (h : RangeIs kv w b r g left cnt) (hinj : ∀ a c, kv a = kv c → a = c) (ty : TypeId) :
    (cnt = 0 ∧ (∀ k, left k = false) ∧ (Instr.next (.pointer (some ⟨r, 0, none⟩)) false ty).run P w = .ok (.tuple #[.bool false]) w) ∨
    ∃ k v w' cnt', left k = true ∧ g k = some v ∧ (Instr.next (.pointer (some ⟨r, 0, none⟩)) false ty).run P w = .ok (.tuple #[.bool true, kv k, v]) w' ∧
      RangeIs kv w' b r g (fun x => left x && !decide (x = k)) cnt' ∧ cnt' < cnt ∧ w.grownBy w' (some r) ∧ w'.heap.size = w.heap.size ∧ (Instr.entry (.pointer (some ⟨r, 0, none⟩))).run P w' = .ok (.tuple #[kv k, v]) w' := by
  obtain ⟨es, clock, since, seen, c0, hb, hs, hks, hg, hr, hold, rfl, hl1, hl2, hsc, hsk⟩ := h
  have hne : r ≠ b := by rintro rfl; rw [hb] at hr; cases hr
  have hst := (stamped_iff es clock).1 hs
  rcases run_next_at (P := P) w ty r b since c0 seen es clock hr hb hold hsc with ⟨h0, hrun⟩ | ⟨e, he, w1, hal, hrun⟩
  · refine Or.inl ⟨h0, fun k => ?_, hrun⟩
    cases hk : left k
    · rfl
    · obtain ⟨v, hv⟩ := hl2 k hk
      obtain ⟨x, hx, e, -⟩ := (hg k v).1 hv
      rw [hl1 x hx k e, all_seen es seen h0 x hx] at hk
      cases hk
  · obtain ⟨hem, hes⟩ := mem_left he
    obtain ⟨k, hk⟩ := hks e hem
    have hr1 : w1.heap[r]? = some (.mapIter (some b) since seen c0) := by rcases hal with rfl | rfl <;> exact hr
    have hb1 : w1.heap[b]? = some (.map es clock) := by rcases hal with rfl | rfl <;> exact hb
    have hset := heap_set (o' := .mapIter (some b) since (seen.push e.born) clock) hr1
    have hb' : (setBlock w1 r (.mapIter (some b) since (seen.push e.born) clock)).heap[b]? = some (.map es clock) := (hset.2 b (fun e1 => hne e1.symm)).trans hb1
    rw [hk] at hrun
    refine Or.inr ⟨k, e.val, _, _, by rw [hl1 e hem k hk, hes]; rfl, (hg k _).2 ⟨e, hem, hk, rfl⟩, hrun,
      ⟨es, clock, since, seen.push e.born, clock, hb', hs, hks, hg, hset.1, hold, rfl, fun x hx k' hk' => ?_, fun k' h' => hl2 k' (by simp at h'; exact h'.1), hsk, hsk⟩, left_shrinks es seen e he, ?_, ?_, ?_⟩
    · show (left k' && !decide (k' = k)) = _
      rw [hl1 x hx k' hk', contains_push]
      by_cases hxe : x.born = e.born
      · obtain rfl := born_inj hst.2.1 hx hem hxe
        have : k' = k := hinj _ _ (hk'.symm.trans hk)
        subst this
        simp
      · have : k' ≠ k := fun e2 => by
          subst e2
          have e3 := entry_eq_of_key hst.2.2 hx hem (hk'.trans hk.symm)
          exact hxe (by rw [e3])
        simp [this, hxe]
    · rcases hal with rfl | rfl <;> exact ⟨rfl, rfl, rfl, by simp [setBlock], fun i _ hi => hset.2 i (fun e1 => hi (by rw [e1]))⟩
    · rcases hal with rfl | rfl <;> simp [setBlock]
    · have := run_entry_at (P := P) _ r b since seen es clock e hset.1 hb' hem hst.2.1
      rw [hk] at this
      exact this
end
section
variable {κ : Type} {kv : κ → Value} {P : Program} {w : World} {ops : Array Oper} {rest : List Oper} {o : Oper} {a : Act} {Q : Exit → Act → World → Prop}
theorem wpList_mrange (g : κ → Option Value) (b : Nat) (t kt et : TypeId) (ht : P.underlying t = some (.map kt et))
    (hg : o.guard = none) (m : Operand) (hop : o.op = Op.range t m) (hm : a.eval m = .map (some b)) (h : MapIs kv w b g)
    (hK : ∀ w' cnt, RangeIs kv w' b w.heap.size g (fun k => (g k).isSome) cnt → w.grownBy w' none → w'.heap.size = w.heap.size + 1 → wpList P ops Q rest (a.put o.dst (.pointer (some ⟨w.heap.size, 0, none⟩))) w') : wpList P ops Q (o :: rest) a w := by
  refine wpList_plain hg fun K' hK' => ?_
  obtain ⟨w', cnt, hrun, r1, r2, r3⟩ := h.range ht
  unfold Oper.wp
  simp [execOp, hop, hm, hrun, Result.andThen]
  exact hK' _ _ (hK w' cnt r1 r2 r3)
theorem wpList_mnext [DecidableEq κ] (g : κ → Option Value) (b r : Nat) (left : κ → Bool) (cnt : Nat) (hinj : ∀ a c, kv a = kv c → a = c)
    (hg : o.guard = none) (it : Operand) (hop : o.op = Op.next it false) (hit : a.eval it = .pointer (some ⟨r, 0, none⟩)) (h : RangeIs kv w b r g left cnt)
    (hDone : cnt = 0 → (∀ k, left k = false) → wpList P ops Q rest (a.put o.dst (.tuple #[.bool false])) w)
    (hMore : ∀ k v w' cnt', left k = true → g k = some v → RangeIs kv w' b r g (fun x => left x && !decide (x = k)) cnt' → cnt' < cnt → w.grownBy w' (some r) → w'.heap.size = w.heap.size →
      (Instr.entry (.pointer (some ⟨r, 0, none⟩))).run P w' = .ok (.tuple #[kv k, v]) w' → wpList P ops Q rest (a.put o.dst (.tuple #[.bool true, kv k, v])) w') : wpList P ops Q (o :: rest) a w := by
  refine wpList_plain hg fun K' hK' => ?_
  unfold Oper.wp
  rcases h.next (P := P) hinj o.type with ⟨h0, hl, hrun⟩ | ⟨k, v, w', cnt', hl, hv, hrun, hrg, hlt, hgr, hsz, hen⟩
  · simp [execOp, hop, hit, hrun, Result.andThen]
    exact hK' _ _ (hDone h0 hl)
  · simp [execOp, hop, hit, hrun, Result.andThen]
    exact hK' _ _ (hMore k v w' cnt' hl hv hrg hlt hgr hsz hen)
end
end Go.Proofs.YteblddnoegbalaaGreat
namespace Go.Proofs.YteblddnoegbalaaGreat
open Go.RowKit
def mapK (L K : List Int) (i : Nat) : Int → Option Value := fun v => if v ∈ keysOf (L.take i) then some (.int .i64 (byTo L K v i)) else none
theorem mem_takeK {L : List Int} {i : Nat} {v : Int} (hi : i ≤ L.length) : v ∈ keysOf (L.take i) ↔ ∃ j, j < i ∧ ((ix L j).natAbs : Int) = v := by
  rw [mem_keys]
  constructor
  · rintro ⟨l, hl, e⟩
    obtain ⟨j, hj, rfl⟩ := List.mem_iff_getElem.1 hl
    simp only [List.length_take] at hj
    refine ⟨j, by omega, ?_⟩
    rw [ix_get (by omega)]
    simpa using e
  · rintro ⟨j, hj, e⟩
    refine ⟨ix L j, List.mem_iff_getElem.2 ⟨j, by simp; omega, ?_⟩, e⟩
    rw [ix_get (by omega)]
    simp
theorem byTo_notin {L K : List Int} {i : Nat} {v : Int} (hi : i ≤ L.length) (hv : 0 < v) (h : v ∉ keysOf (L.take i)) : byTo L K v i = 0 :=
  byTo_zero_of i fun j hj => by
    have h1 : ((ix L j).natAbs : Int) ≠ v := fun e => h ((mem_takeK hi).2 ⟨j, hj, e⟩)
    constructor <;> (intro e; rw [e] at h1; omega)
theorem mapK_getD {L K : List Int} {i : Nat} {v : Int} (hi : i ≤ L.length) (hv : 0 < v) : (mapK L K i v).getD (.int .i64 0) = .int .i64 (byTo L K v i) := by
  unfold mapK
  split
  · rfl
  · rename_i h; rw [byTo_notin hi hv h]; rfl
theorem mapK_zero (L K : List Int) : mapK L K 0 = fun _ => none := by funext v; simp [mapK, keysOf]
theorem keys_takePos {L : List Int} {i : Nat} {v : Int} (hi : i ≤ L.length) (hp : ∀ j, j < i → ix L j ≠ 0) (h : v ∈ keysOf (L.take i)) : 0 < v := by
  obtain ⟨j, hj, e⟩ := (mem_takeK hi).1 h
  have := hp j hj
  omega
theorem mapK_step {L K : List Int} {i : Nat} (hi : i < L.length) (hp : ∀ j, j < i + 1 → ix L j ≠ 0) {x : Int} (hx : ((ix L i).natAbs : Int) = x) {y : Int} (hy : y = byTo L K x (i + 1)) :
    upd (mapK L K i) x (some (.int .i64 y)) = mapK L K (i + 1) := by
  subst hy
  funext v
  unfold upd
  by_cases e : v = x
  · subst e
    rw [if_pos rfl]
    unfold mapK
    rw [if_pos ((mem_takeK (by omega)).2 ⟨i, by omega, hx⟩)]
  · rw [if_neg e]
    unfold mapK
    have hm : v ∈ keysOf (L.take (i + 1)) ↔ v ∈ keysOf (L.take i) := by
      rw [mem_takeK (by omega), mem_takeK (by omega)]
      constructor
      · rintro ⟨j, hj, e2⟩
        by_cases h : j = i
        · subst h; exact absurd (e2.symm.trans hx) e
        · exact ⟨j, by omega, e2⟩
      · rintro ⟨j, hj, e2⟩
        exact ⟨j, by omega, e2⟩
    by_cases h : v ∈ keysOf (L.take i)
    · rw [if_pos h, if_pos (hm.2 h), byTo_succ]
      have hv := keys_takePos (by omega) (fun j hj => hp j (by omega)) h
      rw [if_neg (by omega), if_neg (by omega)]
      simp
    · rw [if_neg h, if_neg (fun h2 => h (hm.1 h2))]
theorem byTo_at {L K : List Int} {i : Nat} {x : Int} (_h : ix L i ≠ 0) (hx : ((ix L i).natAbs : Int) = x) : byTo L K x (i + 1) = if ix L i < 0 then byTo L K x i - ix K i else byTo L K x i + ix K i := by
  rw [byTo_succ]
  by_cases h0 : ix L i < 0
  · rw [if_neg (by omega), if_pos (by omega), if_pos h0]; omega
  · rw [if_pos (by omega), if_neg h0]
theorem negTo_at {L K : List Int} {i : Nat} : negTo L K (i + 1) = if ix L i < 0 then negTo L K i + ix K i else negTo L K i := by
  show negTo L K i + (if ix L i < 0 then ix K i else 0) = _
  split <;> omega
theorem pok_at {L K : List Int} {i : Nat} (h : pokAt L K i = true) : ix L i ≠ 0 ∧ -65536 ≤ ix L i ∧ ix L i ≤ 65536 ∧ -16777216 ≤ ix K i ∧ ix K i ≤ 16777216 := by
  unfold pokAt plitB at h
  simp only [Bool.and_eq_true, decide_eq_true_eq] at h
  exact ⟨h.1.1, h.1.2.1, h.1.2.2, h.2⟩
theorem mapK_lookE {L K : List Int} {i : Nat} {w : World} {b : Nat} (h : MapIs (Value.int .i64) w b (mapK L K i)) (hi : i ≤ L.length) {x : Int} (hx : 0 < x) :
    (Instr.lookup 129 (.map (some b)) (.int .i64 x) false).run Tryz.prog w = .ok (.int .i64 (byTo L K x i)) w := by
  have := h.lookup kvInt Tryz.underlying129 Tryz.underlying3 (Tryz.zeroValue3 w) x
  rw [mapK_getD hi hx] at this
  exact this
structure Met (L : List Int) (left : Int → Bool) (ks : List Int) : Prop where
  nodup : ks.Nodup
  mem : ∀ v, v ∈ ks ↔ v ∈ keysOf L ∧ left v = false
theorem Met.start (L K : List Int) : Met L (fun v => (mapK L K L.length v).isSome) [] := by
  refine ⟨List.nodup_nil, fun v => ?_⟩
  simp only [List.not_mem_nil, false_iff, not_and, Bool.not_eq_false]
  intro h
  unfold mapK
  rw [List.take_length, if_pos h]
  rfl
theorem Met.push {L : List Int} {left : Int → Bool} {ks : List Int} (h : Met L left ks) {v : Int} (hv : left v = true) (hm : v ∈ keysOf L) : Met L (fun x => left x && !decide (x = v)) (ks ++ [v]) := by
  refine ⟨List.nodup_append.2 ⟨h.nodup, by simp, fun a ha b hb => ?_⟩, fun x => ?_⟩
  · rw [List.mem_singleton] at hb
    subst hb
    rintro rfl
    have := ((h.mem a).1 ha).2
    rw [hv] at this; cases this
  · rw [List.mem_append, List.mem_singleton, h.mem x]
    by_cases e : x = v
    · subst e
      simp [hm]
    · simp [e]
theorem Met.perm {L : List Int} {left : Int → Bool} {ks : List Int} (h : Met L left ks) (h0 : ∀ v, left v = false) : ks.Perm (keysOf L) :=
  nodup_perm h.nodup (sorted_nodup (keys_sorted L)) fun x => by rw [h.mem x]; exact ⟨fun h => h.1, fun h2 => ⟨h2, h0 x⟩⟩
theorem mapK_some {L K : List Int} {v : Int} {u : Value} (h : mapK L K L.length v = some u) : v ∈ keysOf L ∧ u = .int .i64 (byTo L K v L.length) := by
  unfold mapK at h
  rw [List.take_length] at h
  split at h
  · rename_i h2; exact ⟨h2, (Option.some.inj h).symm⟩
  · cases h
theorem keys_len : ∀ L : List Int, (keysOf L).length ≤ L.length
  | [] => by simp [keysOf]
  | l :: L => by
    have ih := keys_len L
    have : ∀ (v : Int) (l : List Int), (insK v l).length ≤ l.length + 1 := fun v l => by
      induction l with
      | nil => simp [insK]
      | cons x l ih => unfold insK; split <;> (try split) <;> simp <;> omega
    have := this (l.natAbs : Int) (keysOf L)
    simp only [keysOf, List.length_cons]
    omega
theorem Met.len {L : List Int} {left : Int → Bool} {ks : List Int} (h : Met L left ks) : ks.length ≤ L.length := by
  have h1 : ks.Perm ((keysOf L).filter fun x => decide (x ∈ ks)) :=
    nodup_perm h.nodup ((sorted_nodup (keys_sorted L)).filter _) fun x => by
      rw [List.mem_filter, decide_eq_true_eq]
      exact ⟨fun hx => ⟨((h.mem x).1 hx).1, hx⟩, fun hx => hx.2⟩
  have h2 := h1.length_eq
  have h3 := keys_len L
  have h4 := List.length_filter_le (fun x => decide (x ∈ ks)) (keysOf L)
  omega
section
variable {P : Program} {l : List Oper} {D : Nat → Nat → Bool} {Q : Exit → Act → World → Prop} {a0 : Act}
theorem put_other {a b : Act} {d : Option Tmp} {v v' : Value} (hs : a.tmps.size = b.tmps.size) (h : a.put d v = a.put d v') : b.put d v = b.put d v' := by
  cases d with
  | none => rfl
  | some d =>
    by_cases hd : d < a.tmps.size
    · have h1 := congrArg (fun x : Act => x.tmps[d]?) h
      simp only [Act.put, Array.getElem?_setIfInBounds, hd, if_true] at h1
      rw [Option.some.inj h1]
    · have hb : ¬ d < b.tmps.size := by rw [← hs]; exact hd
      simp only [Act.put, Array.setIfInBounds, hb, dif_neg, not_false_eq_true]
def StepJ (P : Program) (l : List Oper) (a0 : Act) (W : (Nat → Value) → (Nat → Bool) → World → Prop) (i : Nat) (vals : Nat → Value) (L : Nat → Bool) (w : World) : Prop :=
  Region.wanted (opAt l i) (yielded l.toArray (Afr l a0 vals i).tmps) = true ∧
    (opAt l i).wp P (Afr l a0 vals i) w (fun a' w' => ∃ v, a' = (Afr l a0 vals i).put (opAt l i).dst v ∧ W (updN vals i v) (updN L i true) w') (fun _ _ _ => False)
theorem StepJ.of {W : (Nat → Value) → (Nat → Bool) → World → Prop} {i : Nat} {vals : Nat → Value} {L : Nat → Bool} {w : World} (hw : Region.wanted (opAt l i) (yielded l.toArray (Afr l a0 vals i).tmps) = true)
    (h : ∀ K : Act → World → Prop, (∀ v w', W (updN vals i v) (updN L i true) w' → K ((Afr l a0 vals i).put (opAt l i).dst v) w') → (opAt l i).wp P (Afr l a0 vals i) w K (fun _ _ _ => False)) : StepJ P l a0 W i vals L w :=
  ⟨hw, h _ fun v _ hW => ⟨v, rfl, hW⟩⟩
theorem any_inv (c : Chk l.toArray D) (ht : ∀ i, i < l.length → tame (opAt l i) = true) (W : (Nat → Value) → (Nat → Bool) → World → Prop)
    (hstep : ∀ i, i < l.length → ∀ vals L w, L i = false → (∀ j, j < l.length → D i j = true → L j = true) → (∀ k, k < l.length → L k = true → ∀ j, j < l.length → D k j = true → L j = true) → W vals L w → StepJ P l a0 W i vals L w)
    (hend : ∀ vals L w, (∀ i, i < l.length → L i = true) → W vals L w → Q .normal (Afr l a0 vals l.length) w) :
    ∀ (fuel : Nat) (listed : Array Bool) (w : World) (vals : Nat → Value), listed.size = l.length → unl listed l.length ≤ fuel →
      (∀ k, k < l.length → listed.getD k false = true → ∀ i, i < l.length → D k i = true → listed.getD i false = true) →
      W vals (fun j => listed.getD j false) w → wpAny P .any l.toArray Q fuel listed (fr l.toArray vals (fun j => listed.getD j false) a0 l.length) w := by
  intro fuel
  have hfin : ∀ (listed : Array Bool) (w : World) (vals : Nat → Value), listed.size = l.length → W vals (fun j => listed.getD j false) w → Region.ready .any l.toArray listed = [] → Q .normal (fr l.toArray vals (fun j => listed.getD j false) a0 l.length) w := by
    intro listed w vals hsz hw hr
    have hall := all_listed c hsz hr
    have e : fr l.toArray vals (fun j => listed.getD j false) a0 l.length = Afr l a0 vals l.length := fr_congr _ (fun k hk => ⟨hall k hk, fun _ => rfl⟩)
    rw [e]
    exact hend vals _ w hall hw
  induction fuel with
  | zero =>
    intro listed w vals hsz hfuel hcl hw
    have hr := ready_nil (l := l) hsz (unl_zero (listed := listed) l.length (by omega))
    exact ⟨hr, hfin listed w vals hsz hw hr⟩
  | succ fuel ih =>
    intro listed w vals hsz hfuel hcl hw
    refine ⟨hfin listed w vals hsz hw, fun i hir => ?_⟩
    obtain ⟨h0, o, ho, hdep⟩ := mem_ready.1 hir
    have hil : i < l.length := by have := (Array.getElem?_eq_some_iff.1 ho).1; simpa using this
    have hlt : i < listed.size := by omega
    obtain rfl : o = opAt l i := by rw [opAt_eq hil] at ho; exact (Option.some.inj ho).symm
    have hiun : listed.getD i false = false := by simp [hlt] at h0 ⊢; exact h0
    have hdeps := deps_listed c hcl hil hdep
    have hno : ∀ k, k < l.length → listed.getD k false = true → D k i = false := fun k hk hlk => by
      cases hd : D k i with
      | false => rfl
      | true => rw [hcl k hk hlk i hil hd] at hiun; cases hiun
    have hfuel' : unl (listed.setIfInBounds i true) l.length ≤ fuel := by have := (unl_set hlt hiun l.length).2 hil; omega
    have hsel : ∀ cs b, (opAt l i).op ≠ .select cs b := fun cs b => c.sel i _ cs b (opAt_eq hil)
    have hag := agree_real (a0 := a0) (v1 := vals) (vals := vals) c hil hiun hdeps hno (fun k hk hlk => rfl)
    obtain ⟨hwant, hwp⟩ := hstep i hil vals _ w hiun hdeps hcl hw
    have := wp_agree (Q := Q) hsel (ht i hil) hag hwp
    unfold wpOp
    simp only [opAt_eq hil]
    rw [← hag.wanted, hwant, if_pos rfl]
    refine .inl (Oper.wp_mono (fun b' w' ⟨v, hb', v2, hv2, hW⟩ => ?_) this)
    rw [hb', put_other hag.1 hv2, fr_step c hil hlt hiun hno]
    refine ih _ w' _ (by simpa using hsz) hfuel' (closed_set hlt hcl hdeps) ?_
    have e : (fun j => (listed.setIfInBounds i true).getD j false) = updN (fun j => listed.getD j false) i true := by
      funext j
      rw [getD_set hlt]
      rfl
    rw [e]
    exact hW
theorem wp_region_inv {id : Nat} {w : World} (W : (Nat → Value) → (Nat → Bool) → World → Prop) (hm : P.follows .mixedOrders = true) (hB : chk l.toArray (masks l) = true) (ht : l.all tame = true) (h0 : W (fun _ => undef) (fun _ => false) w.drew)
    (hstep : ∀ i, i < l.length → ∀ vals L w, L i = false → (∀ j, j < l.length → dm (masks l) i j = true → L j = true) → (∀ k, k < l.length → L k = true → ∀ j, j < l.length → dm (masks l) k j = true → L j = true) → W vals L w → StepJ P l a0 W i vals L w)
    (hend : ∀ vals L w, (∀ i, i < l.length → L i = true) → W vals L w → Q .normal (Afr l a0 vals l.length) w) : (Code.region id l.toArray true).wp P Q a0 w := by
  refine wp_region_any hm ?_
  have hun : ∀ k, unl (Array.replicate l.toArray.size false) k ≤ k := fun k => by
    induction k with
    | zero => exact Nat.le_refl _
    | succ k ih => unfold unl; split <;> omega
  have hf : ∀ j, (Array.replicate l.toArray.size false).getD j false = false := fun j => by
    simp only [Array.getD_eq_getD_getElem?, Array.getElem?_replicate]
    split <;> simp
  have hff : (fun j => (Array.replicate l.toArray.size false).getD j false) = fun _ => false := funext hf
  have htt : ∀ i, i < l.length → tame (opAt l i) = true := fun i hi => by
    have := List.all_eq_true.1 ht (l[i]) (List.getElem_mem hi)
    simpa [opAt, List.getD, hi] using this
  have := any_inv (Q := Q) (a0 := a0) (chk_spec hB) htt W hstep hend l.toArray.size (Array.replicate l.toArray.size false) { w with drawn := w.drawn + 1 } (fun _ => undef) (by simp) (by simpa using hun l.length)
    (fun k _ h => by rw [hf] at h; cases h) (by rw [hff]; exact h0)
  have e : ∀ k, fr l.toArray (fun _ => undef) (fun j => (Array.replicate l.toArray.size false).getD j false) a0 k = a0 := fun k => by
    induction k with
    | zero => rfl
    | succ k ih => rw [fr, if_neg (by rw [hf]; exact Bool.false_ne_true), ih]
  rw [e] at this
  exact this
end
def Far (u v : Value) : Prop := ∀ g, u.ownBlock = some g → v.ownBlock ≠ some g
structure TW (w : World) (ob : Nat) (v1 v2 bd : Value) (l1 l2 : List Int) (x y : Int) (vals : Nat → Value) (L : Nat → Bool) (wx : World) : Prop where
  below : Below ob w wx
  out : Blk wx ob [if L 11 then vals 4 else v1, if L 13 then vals 9 else v2, bd] 25
  r1 : QRow (ob + 1) wx (if L 4 then vals 4 else v1) (if L 4 then l1 ++ [x] else l1)
  r2 : QRow (ob + 1) wx (if L 9 then vals 9 else v2) (if L 9 then l2 ++ [y] else l2)
  far : Far (if L 4 then vals 4 else v1) (if L 9 then vals 9 else v2)
  t0 : L 0 = true → vals 0 = .pointer (some ⟨ob, 0, none⟩)
  t1 : L 1 = true → vals 1 = v1
  t2 : L 2 = true → vals 2 = .int .i64 x
  t3 : L 3 = true → L 4 = false → ∃ b, vals 3 = .slice (some ⟨b, 0, none⟩) 1 1 ∧ Blk wx b [.int .i64 x] 3
  t5 : L 5 = true → vals 5 = .pointer (some ⟨ob, 1, none⟩)
  t6 : L 6 = true → vals 6 = v2
  t7 : L 7 = true → vals 7 = .int .i64 y
  t8 : L 8 = true → L 9 = false → ∃ b, vals 8 = .slice (some ⟨b, 0, none⟩) 1 1 ∧ Blk wx b [.int .i64 y] 3 ∧ v1.ownBlock ≠ some b
  t10 : L 10 = true → vals 10 = .pointer (some ⟨ob, 0, none⟩)
  t12 : L 12 = true → vals 12 = .pointer (some ⟨ob, 1, none⟩)
section
variable {w : World} {ob : Nat} {v1 v2 bd : Value} {l1 l2 : List Int} {x y : Int} {vals : Nat → Value} {L : Nat → Bool} {wx : World}
theorem TW.start (hb : Blk w ob [v1, v2, bd] 25) (h1 : QRow (ob + 1) w v1 l1) (h2 : QRow (ob + 1) w v2 l2) (hf : Far v1 v2) : TW w ob v1 v2 bd l1 l2 x y (fun _ => undef) (fun _ => false) w.drew where
  below := (Below.refl _ _).drew
  out := hb
  r1 := h1
  r2 := h2
  far := hf
  t0 := fun h => Bool.noConfusion h
  t1 := fun h => Bool.noConfusion h
  t2 := fun h => Bool.noConfusion h
  t3 := fun h => Bool.noConfusion h
  t5 := fun h => Bool.noConfusion h
  t6 := fun h => Bool.noConfusion h
  t7 := fun h => Bool.noConfusion h
  t8 := fun h => Bool.noConfusion h
  t10 := fun h => Bool.noConfusion h
  t12 := fun h => Bool.noConfusion h
def quietV (ob : Nat) (v1 v2 : Value) (x y : Int) : Nat → Value
  | 0 => .pointer (some ⟨ob, 0, none⟩)
  | 1 => v1
  | 2 => .int .i64 x
  | 5 => .pointer (some ⟨ob, 1, none⟩)
  | 6 => v2
  | 7 => .int .i64 y
  | 10 => .pointer (some ⟨ob, 0, none⟩)
  | _ => .pointer (some ⟨ob, 1, none⟩)
theorem TW.quiet (h : TW w ob v1 v2 bd l1 l2 x y vals L wx) (i : Nat) (hi : i = 0 ∨ i = 1 ∨ i = 2 ∨ i = 5 ∨ i = 6 ∨ i = 7 ∨ i = 10 ∨ i = 12) : TW w ob v1 v2 bd l1 l2 x y (updN vals i (quietV ob v1 v2 x y i)) (updN L i true) wx := by
  obtain ⟨h1, h2, h3, h4, h5, t0, t1, t2, t3, t5, t6, t7, t8, t10, t12⟩ := h
  rcases hi with rfl | rfl | rfl | rfl | rfl | rfl | rfl | rfl <;> constructor <;> first | (simp [updN, quietV]; done) | simpa [updN, quietV]
theorem TW.build3 (h : TW w ob v1 v2 bd l1 l2 x y vals L wx) : TW w ob v1 v2 bd l1 l2 x y (updN vals 3 (.slice (some ⟨wx.heap.size, 0, none⟩) 1 1)) (updN L 3 true) (wx.alloc (.cells #[.int .i64 x] 3)) := by
  have hal := bal (Below.refl wx.heap.size wx) (.cells #[.int .i64 x] 3)
  have hb := Blk.new wx [.int .i64 x] 3
  have hout := h.out.alloc (.cells #[.int .i64 x] 3)
  have h1 := h.r1.below hal
  have h2 := h.r2.below hal
  have h0 := h.below.trans (hal.mono (by have := h.out.lt; omega))
  obtain ⟨-, -, -, -, h5, t0, t1, t2, t3, t5, t6, t7, t8, t10, t12⟩ := h
  constructor <;> try (first | (simp [updN]; done) | simpa [updN])
  · intro _ _; exact ⟨_, by simp [updN], hb⟩
  · intro e1 e2
    simp only [updN, Nat.reduceEqDiff, if_false] at e1 e2
    obtain ⟨b, e, k, k2⟩ := t8 e1 e2
    exact ⟨b, by simpa [updN] using e, k.alloc _, k2⟩
theorem TW.build8 (h : TW w ob v1 v2 bd l1 l2 x y vals L wx) (hx : ∀ g, v1.ownBlock = some g → g < wx.heap.size) : TW w ob v1 v2 bd l1 l2 x y (updN vals 8 (.slice (some ⟨wx.heap.size, 0, none⟩) 1 1)) (updN L 8 true) (wx.alloc (.cells #[.int .i64 y] 3)) := by
  have hal := bal (Below.refl wx.heap.size wx) (.cells #[.int .i64 y] 3)
  have hb := Blk.new wx [.int .i64 y] 3
  have hout := h.out.alloc (.cells #[.int .i64 y] 3)
  have h1 := h.r1.below hal
  have h2 := h.r2.below hal
  have h0 := h.below.trans (hal.mono (by have := h.out.lt; omega))
  obtain ⟨-, -, -, -, h5, t0, t1, t2, t3, t5, t6, t7, t8, t10, t12⟩ := h
  constructor <;> try (first | (simp [updN]; done) | simpa [updN])
  · intro e1 e2
    simp only [updN, Nat.reduceEqDiff, if_false] at e1 e2
    obtain ⟨b, e, k⟩ := t3 e1 e2
    exact ⟨b, by simpa [updN] using e, k.alloc _⟩
  · intro _ _; exact ⟨_, by simp [updN], hb, fun e => by have := hx _ e; omega⟩
theorem below_row {n : Nat} {w w' : World} {u : Value} (h : w.grownBy w' u.ownBlock) (hn : n ≤ w.heap.size) (hu : ∀ g, u.ownBlock = some g → n ≤ g) : Below n w w' :=
  ⟨h.os, h.tape, h.output, h.size, fun i hi => h.block i (by omega) (fun e => by have := hu i e.symm; omega)⟩
theorem QRow.base {base : Nat} {w : World} {v : Value} {l : List Int} (h : QRow base w v l) {g : Nat} (e : v.ownBlock = some g) : base ≤ g ∧ g < w.heap.size := by
  rcases h.2 with ⟨rfl, _⟩ | ⟨g', off, cap, cur, rfl, hb, hg, _⟩
  · cases e
  · simp only [Value.ownBlock, Option.some.injEq] at e
    subst e
    exact ⟨hb, (Array.getElem?_eq_some_iff.1 hg).1⟩
theorem TW.app4 (h : TW w ob v1 v2 bd l1 l2 x y vals L wx) (h4 : L 4 = false) (h9 : L 9 = false) (h11 : L 11 = false) {v' : Value} {w' : World} (hq : QRow (ob + 1) w' v' (l1 ++ [x])) (hg : wx.grownBy w' v1.ownBlock) (ho : v'.ownBlock = v1.ownBlock ∨ v'.ownBlock = some wx.heap.size) :
    TW w ob v1 v2 bd l1 l2 x y (updN vals 4 v') (updN L 4 true) w' := by
  have hout := h.out
  have hr1 := h.r1
  have hr2 := h.r2
  have hf := h.far
  have hbl := h.below
  have hlt := hout.lt
  rw [h4] at hr1 hf
  rw [h9] at hr2 hf
  simp only [Bool.false_eq_true, if_false] at hr1 hr2 hf
  have hb : Below ob w w' := hbl.trans (below_row hg (by omega) (fun g e => by have := (hr1.base e).1; omega))
  have hr2' : QRow (ob + 1) w' v2 l2 := hr2.kept fun i h1 h2 h3 => hg.block i h2 (fun e => hf i e.symm h3)
  have hf' : Far v' v2 := fun g e e2 => by
    rcases ho with h1 | h1
    · exact hf g (h1 ▸ e) e2
    · rw [h1] at e
      have := (hr2.base e2).2
      have := Option.some.inj e
      omega
  have hout' : Blk w' ob [if L 11 then vals 4 else v1, if L 13 then vals 9 else v2, bd] 25 := hout.same (hg.block ob hlt (fun e => by have := (hr1.base e.symm).1; omega))
  obtain ⟨-, -, -, -, -, t0, t1, t2, t3, t5, t6, t7, t8, t10, t12⟩ := h
  have n11 : L 11 = false := h11
  rw [n11] at hout'
  simp only [Bool.false_eq_true, if_false] at hout'
  constructor
  · exact hb
  · simpa [updN, n11] using hout'
  · simpa [updN] using hq
  · simpa [updN, h9] using hr2'
  · simpa [updN, h9] using hf'
  · simpa [updN] using t0
  · simpa [updN] using t1
  · simpa [updN] using t2
  · intro _ e; simp [updN] at e
  · simpa [updN] using t5
  · simpa [updN] using t6
  · simpa [updN] using t7
  · intro e1 e2
    simp only [updN, Nat.reduceEqDiff, if_false] at e1 e2
    obtain ⟨b, e, k, k2⟩ := t8 e1 e2
    exact ⟨b, by simpa [updN] using e, k.same (hg.block b k.lt (fun e3 => k2 e3.symm)), k2⟩
  · simpa [updN] using t10
  · simpa [updN] using t12
theorem TW.app9 (h : TW w ob v1 v2 bd l1 l2 x y vals L wx) (h4 : L 4 = true) (h9 : L 9 = false) (h13 : L 13 = false) {v' : Value} {w' : World} (hq : QRow (ob + 1) w' v' (l2 ++ [y])) (hg : wx.grownBy w' v2.ownBlock) (ho : v'.ownBlock = v2.ownBlock ∨ v'.ownBlock = some wx.heap.size) :
    TW w ob v1 v2 bd l1 l2 x y (updN vals 9 v') (updN L 9 true) w' := by
  have hout := h.out
  have hr1 := h.r1
  have hr2 := h.r2
  have hf := h.far
  have hbl := h.below
  have hlt := hout.lt
  rw [h4] at hr1 hf
  rw [h9] at hr2 hf
  simp only [Bool.false_eq_true, if_false, if_true] at hr1 hr2 hf
  have hb : Below ob w w' := hbl.trans (below_row hg (by omega) (fun g e => by have := (hr2.base e).1; omega))
  have hr1' : QRow (ob + 1) w' (vals 4) (l1 ++ [x]) := hr1.kept fun i h1 h2 h3 => hg.block i h2 (fun e => hf i h3 e.symm)
  have hf' : Far (vals 4) v' := fun g e e2 => by
    rcases ho with h1 | h1
    · exact hf g e (h1 ▸ e2)
    · rw [h1] at e2
      have := (hr1.base e).2
      have := Option.some.inj e2
      omega
  have hout' : Blk w' ob [if L 11 then vals 4 else v1, if L 13 then vals 9 else v2, bd] 25 := hout.same (hg.block ob hlt (fun e => by have := (hr2.base e.symm).1; omega))
  obtain ⟨-, -, -, -, -, t0, t1, t2, t3, t5, t6, t7, t8, t10, t12⟩ := h
  rw [h13] at hout'
  simp only [Bool.false_eq_true, if_false] at hout'
  constructor
  · exact hb
  · simpa [updN, h13] using hout'
  · simpa [updN, h4] using hr1'
  · simpa [updN] using hq
  · simpa [updN, h4] using hf'
  · simpa [updN] using t0
  · simpa [updN] using t1
  · simpa [updN] using t2
  · intro _ e; simp [updN, h4] at e
  · simpa [updN] using t5
  · simpa [updN] using t6
  · simpa [updN] using t7
  · intro _ e; simp [updN] at e
  · simpa [updN] using t10
  · simpa [updN] using t12
theorem TW.store (h : TW w ob v1 v2 bd l1 l2 x y vals L wx) (i : Nat) (h4 : L 4 = true) (h9 : L 9 = true) (hi : i = 11 ∨ i = 13) (u : Value) :
    TW w ob v1 v2 bd l1 l2 x y (updN vals i u) (updN L i true) (wx.setCell ⟨ob, if i = 11 then 0 else 1, none⟩ (if i = 11 then vals 4 else vals 9)) := by
  have hout := h.out
  have hlt := hout.lt
  have hb : Below ob w (wx.setCell ⟨ob, if i = 11 then 0 else 1, none⟩ (if i = 11 then vals 4 else vals 9)) := h.below.setCell (p := ⟨ob, _, none⟩) (Nat.le_refl _) _
  have hr1 : QRow (ob + 1) (wx.setCell ⟨ob, if i = 11 then 0 else 1, none⟩ (if i = 11 then vals 4 else vals 9)) _ _ := h.r1.kept fun k h1 h2 _ => by
    simp only [World.setCell]
    rw [Array.getElem?_modify]
    rw [if_neg (by omega)]
  have hr2 : QRow (ob + 1) (wx.setCell ⟨ob, if i = 11 then 0 else 1, none⟩ (if i = 11 then vals 4 else vals 9)) _ _ := h.r2.kept fun k h1 h2 _ => by
    simp only [World.setCell]
    rw [Array.getElem?_modify]
    rw [if_neg (by omega)]
  have hs := hout.set (if i = 11 then 0 else 1) (if i = 11 then vals 4 else vals 9)
  obtain ⟨-, -, -, -, h5, t0, t1, t2, t3, t5, t6, t7, t8, t10, t12⟩ := h
  rw [h4] at hr1 h5
  rw [h9] at hr2 h5
  simp only [if_true] at hr1 hr2 h5
  rcases hi with rfl | rfl
  · simp only [if_true, List.set_cons_zero] at hs hb hr1 hr2 ⊢
    constructor
    · exact hb
    · simpa [updN] using hs
    · simpa [updN, h4] using hr1
    · simpa [updN, h9] using hr2
    · simpa [updN, h4, h9] using h5
    · simpa [updN] using t0
    · simpa [updN] using t1
    · simpa [updN] using t2
    · intro _ e; simp [updN, h4] at e
    · simpa [updN] using t5
    · simpa [updN] using t6
    · simpa [updN] using t7
    · intro _ e; simp [updN, h9] at e
    · simpa [updN] using t10
    · simpa [updN] using t12
  · simp only [Nat.reduceEqDiff, if_false, List.set_cons_zero, List.set_cons_succ] at hs hb hr1 hr2 ⊢
    constructor
    · exact hb
    · simpa [updN] using hs
    · simpa [updN, h4] using hr1
    · simpa [updN, h9] using hr2
    · simpa [updN, h4, h9] using h5
    · simpa [updN] using t0
    · simpa [updN] using t1
    · simpa [updN] using t2
    · intro _ e; simp [updN, h4] at e
    · simpa [updN] using t5
    · simpa [updN] using t6
    · simpa [updN] using t7
    · intro _ e; simp [updN, h9] at e
    · simpa [updN] using t10
    · simpa [updN] using t12
theorem TW.end (h : TW w ob v1 v2 bd l1 l2 x y vals L wx) (hL : ∀ i, i < 14 → L i = true) : Blk wx ob [vals 4, vals 9, bd] 25 ∧ QRow (ob + 1) wx (vals 4) (l1 ++ [x]) ∧ QRow (ob + 1) wx (vals 9) (l2 ++ [y]) ∧ Far (vals 4) (vals 9) ∧ Below ob w wx := by
  have h0 := h.out
  have h1 := h.r1
  have h2 := h.r2
  have h3 := h.far
  rw [hL 11 (by omega), hL 13 (by omega)] at h0
  rw [hL 4 (by omega)] at h1 h3
  rw [hL 9 (by omega)] at h2 h3
  exact ⟨h0, h1, h2, h3, h.below⟩
end
end Go.Proofs.YteblddnoegbalaaGreat
