/- My texts Own, PbL, PbV, CpP, Aw0, CpR, Lay, merged. -/
import Derived.Test.YtjodocheiejkeaaGreatDoorM00
import Derived.Test.YtjodocheiejkeaaGreatDoorProg
import Derived.WalkKit
import Derived.Lib.Hide
import Derived.Deep.QuietTactic
import Derived.BigQuiet
import Derived.WalkSpells
import Derived.Lib.SliceRun
import Derived.Test.YtjodocheiejkeaaGreatDoorM04
import Derived.Test.YtjodocheiejkeaaGreatDoorM28
import Derived.Test.YtjodocheiejkeaaGreatDoorM03
import Derived.Lib.Bytealg
import Derived.MapKept
import Derived.Maps.OwnSet
import Derived.Maps.OwnOps
import Derived.Test.YtjodocheiejkeaaGreatDoorM02
import Derived.Test.YtjodocheiejkeaaGreatDoorM01
import Derived.Deep.AppendLies
import Derived.Deep.DeepCutAuto
import Derived.Test.YtjodocheiejkeaaGreatDoorM05
import Derived.Test.YtjodocheiejkeaaGreatDoorM07
import Derived.Test.YtjodocheiejkeaaGreatDoorM29
import Derived.Test.YtjodocheiejkeaaGreatDoorM06
import Derived.Laws.EntriesVeiled
import Derived.Deep.RegionWith
import Derived.RangeFuncNested
import Derived.RangeFuncBound
import Derived.RangeFuncCalls
import Derived.RangeFuncLeaves
import Derived.OwnWalkIn
import Derived.TacticsInMore
import Derived.LoopNIn
import Derived.LoopIn
import Derived.Stop.RegionWithIn
import Derived.Shelf.Abstract
import Derived.Deep.OwnRows
import Derived.Test.YtjodocheiejkeaaGreatDoorM08
import Derived.Shelf.Sort.Plain
import Derived.Shelf.Slices.CompactI
import Derived.Shelf.Slices.In.SortNone
import Derived.Shelf.Strconv.Itoa3
import Derived.Shelf.Strings.BuilderK
import Derived.Sort.QuietThIn
import Derived.Test.YtjodocheiejkeaaGreatDoorM11
import Derived.Test.YtjodocheiejkeaaGreatDoorM10
import Derived.Test.YtjodocheiejkeaaGreatDoorM09
import Derived.Maps.RangeWalk
import Derived.Lib.SlicesCompact
import Derived.Sort.OwnSortedInts
import Derived.RangeFuncBox
import Derived.Maps.OwnIn
import Derived.Lib.RowBridge

namespace Go.Proofs.YtjodocheiejkeaaGreatDoor
open Go.RowKit
theorem OwnS.strs {base : Nat} {w : World} {v : Value} {l : List ByteArray} (h : OwnS base w v l) : Strs w v l := ⟨h.1.sl, h.2⟩
theorem infoS : (Tryz.prog.info? 9).map (fun i => (i.zero, i.size, i.bytes)) = some (some (.string ⟨#[]⟩), 1, 16) := by kernel_rfl
end Go.Proofs.YtjodocheiejkeaaGreatDoor
namespace Go.Proofs.YtjodocheiejkeaaGreatDoor
def satC (t : Int → Bool) (c : PBC) : Bool := decide (c.bound ≤ sumW t (c.lits.zip c.coefs))
theorem sumW_zip (t : Int → Bool) (g f : Int → Int) : ∀ V : List Int, sumW t ((V.map g).zip (V.map f)) = sumI (fun v => if t (g v) then f v else 0) V
  | [] => rfl
  | v :: V => by simp only [List.map_cons, List.zip_cons_cons, sumW, sumI, sumW_zip t g f V]
theorem sumI_filter (f : Int → Int) (p : Int → Bool) : ∀ V : List Int, (∀ v ∈ V, p v = false → f v = 0) → sumI f (V.filter p) = sumI f V
  | [], _ => rfl
  | v :: V, h => by
    have ih := sumI_filter f p V fun u hu => h u (.tail _ hu)
    cases hp : p v with
    | true => rw [List.filter_cons_of_pos hp]; simp only [sumI, ih]
    | false => rw [List.filter_cons_of_neg (by simp [hp])]; simp only [sumI, ih, h v (.head _) hp]; omega
theorem sumI_nonneg {f : Int → Int} : ∀ {V : List Int}, (∀ v ∈ V, 0 ≤ f v) → 0 ≤ sumI f V
  | [], _ => by simp [sumI]
  | v :: V, h => by
    have := sumI_nonneg fun u hu => h u (.tail _ hu)
    have := h v (.head _)
    simp only [sumI]; omega
theorem sumI_le {f g : Int → Int} : ∀ {V : List Int}, (∀ v ∈ V, f v ≤ g v) → sumI f V ≤ sumI g V
  | [], _ => by simp [sumI]
  | v :: V, h => by
    have := sumI_le fun u hu => h u (.tail _ hu)
    have := h v (.head _)
    simp only [sumI]; omega
theorem sumI_mem_le {f : Int → Int} {x : Int} : ∀ {V : List Int}, (∀ v ∈ V, 0 ≤ f v) → x ∈ V → f x ≤ sumI f V
  | [], _, h => by cases h
  | v :: V, h, hx => by
    simp only [sumI]
    rcases List.mem_cons.1 hx with rfl | hx
    · have := sumI_nonneg (V := V) fun u hu => h u (.tail _ hu); omega
    · have := sumI_mem_le (V := V) (fun u hu => h u (.tail _ hu)) hx
      have := h v (.head _)
      omega
theorem clip_iff {m : Int → Int} {p : Int → Bool} {bd : Int} (hb : 0 < bd) {V : List Int} (hm : ∀ v ∈ V, 0 ≤ m v) :
    bd ≤ sumI (fun v => if p v then minI (m v) bd else 0) V ↔ bd ≤ sumI (fun v => if p v then m v else 0) V := by
  constructor
  · intro h
    refine Int.le_trans h (sumI_le fun v hv => ?_)
    have := hm v hv
    split
    · unfold minI; split <;> omega
    · omega
  · intro h
    by_cases hx : ∃ v ∈ V, p v = true ∧ bd ≤ m v
    · obtain ⟨v, hv, hp, hb2⟩ := hx
      have h1 := sumI_mem_le (f := fun v => if p v then minI (m v) bd else 0) (x := v) (V := V) (fun u hu => by
        have := hm u hu
        show 0 ≤ if p u then minI (m u) bd else 0
        split
        · unfold minI; split <;> omega
        · omega) hv
      simp only [hp, if_true] at h1
      have : minI (m v) bd = bd := by unfold minI; split <;> omega
      omega
    · rw [sumI_congr (g := fun v => if p v then m v else 0) fun v hv => ?_]
      · exact h
      · show (if p v then minI (m v) bd else 0) = if p v then m v else 0
        cases hp : p v with
        | false => rfl
        | true =>
          have : ¬ bd ≤ m v := fun h => hx ⟨v, hv, hp, h⟩
          simp only [if_true]
          unfold minI; rw [if_pos (by omega)]
theorem sum_lits {t : Int → Bool} (ht : Tot t) {by' : Int → Int} : ∀ {V : List Int}, (∀ v ∈ V, v ≠ 0) →
    sumI (fun v => if t v then by' v else 0) V = sumI (fun v => if t (litOf by' v) then absI (by' v) else 0) V + sumI (fun v => lowI (by' v)) V := by
  intro V hV
  rw [← sumI_add]
  refine sumI_congr fun v hv => ?_
  show (if t v then by' v else 0) = (if t (litOf by' v) then absI (by' v) else 0) + lowI (by' v)
  unfold litOf absI lowI
  by_cases h : by' v < 0
  · simp only [if_pos h]
    rw [ht v (hV v hv)]
    cases t v <;> simp <;> omega
  · simp only [if_neg h]; omega
theorem satC_triv (t : Int → Bool) : satC t ⟨[], [], 0⟩ = true := by simp [satC, sumW]
theorem satC_contra (t : Int → Bool) : satC t ⟨[], [], 1⟩ = false := by simp [satC, sumW]
theorem normC_sat {t : Int → Bool} {by' : Int → Int} {V : List Int} {bd : Int} {c : PBC} (h : normC by' V bd = (c, 0)) :
    satC t c = true ↔ bd ≤ sumI (fun v => if t (litOf by' v) then absI (by' v) else 0) V := by
  have hab : ∀ v : Int, 0 ≤ absI (by' v) := fun v => by unfold absI; split <;> omega
  unfold normC at h
  split at h
  · rename_i h0
    cases h
    rw [satC_triv]
    refine ⟨fun _ => ?_, fun _ => rfl⟩
    refine Int.le_trans h0 (sumI_nonneg fun v _ => ?_)
    have := hab v
    show 0 ≤ if _ then _ else (0 : Int)
    split <;> omega
  · rename_i h0
    split at h
    · rename_i h1
      cases h
      rw [satC_contra]
      refine ⟨fun h => (by cases h), fun h => ?_⟩
      exfalso
      have h2 := (clip_iff (m := fun v => absI (by' v)) (p := fun v => t (litOf by' v)) (bd := bd) (by omega) (V := V) (fun v _ => hab v)).2 h
      have h3 := sumI_le (f := fun v => if t (litOf by' v) then minI (absI (by' v)) bd else 0) (g := fun v => minI (absI (by' v)) bd) (V := V) fun v _ => by
        have := hab v
        show (if _ then _ else (0 : Int)) ≤ _
        split
        · omega
        · unfold minI; split <;> omega
      omega
    · split at h
      · cases h
      · cases h
        unfold satC
        rw [decide_eq_true_eq]
        show bd ≤ sumW t ((V.map (litOf by')).zip (V.map fun v => minI (absI (by' v)) bd)) ↔ _
        rw [sumW_zip]
        exact clip_iff (m := fun v => absI (by' v)) (p := fun v => t (litOf by' v)) (by omega) fun v _ => hab v
theorem normP_sat {t : Int → Bool} (ht : Tot t) {L K : List Int} {B : Int} {c : PBC} (h : normP L K B = (c, 0)) : satC t c = true ↔ B ≤ sumLK t L K L.length := by
  unfold normP at h
  split at h
  · cases h
  split at h
  · cases h
  rename_i h1 h2
  have hok : ∀ j, j < L.length → pokAt L K j = true := allR_get (by simpa using h2)
  have hl : ∀ j, j < L.length → ix L j ≠ 0 := fun j hj => by
    have := hok j hj
    unfold pokAt plitB at this
    simp only [Bool.and_eq_true, decide_eq_true_eq] at this
    exact this.1.1
  have hV : ∀ j, j < L.length → ix L j ≠ 0 ∧ ((ix L j).natAbs : Int) ∈ keysOf L := fun j hj => ⟨hl j hj, mem_keys.2 ⟨ix L j, by rw [ix_get hj]; exact List.getElem_mem hj, rfl⟩⟩
  have hs := sum_vars (K := K) ht (sorted_nodup (keys_sorted L)) (keys_pos hl) L.length hV
  have hb := sum_lits ht (by' := fun v => byTo L K v L.length) (V := keysOf L) fun v hv => by have := keys_pos hl v hv; omega
  rw [normC_sat h, sumI_filter]
  · omega
  · intro v _ hv
    have : byTo L K v L.length = 0 := by simpa using hv
    show (if _ then absI (byTo L K v L.length) else (0 : Int)) = 0
    rw [this]; simp [absI]
end Go.Proofs.YtjodocheiejkeaaGreatDoor
namespace Go.Proofs.YtjodocheiejkeaaGreatDoor
theorem okF_of {bd : Int} : ∀ {l : List (Int × Int)} {last : Int}, (∀ x ∈ l, plitB x.1 = true ∧ last < (x.1.natAbs : Int) ∧ 1 ≤ x.2 ∧ x.2 ≤ bd) → l.Pairwise (fun x y => (x.1.natAbs : Int) < (y.1.natAbs : Int)) → okF bd last l = true
  | [], _, _, _ => rfl
  | x :: l, last, h, hp => by
    obtain ⟨h1, h2⟩ := List.pairwise_cons.1 hp
    obtain ⟨a, b, c, d⟩ := h x (.head _)
    unfold okF chkB
    rw [a, decide_eq_true b, decide_eq_true c, decide_eq_true d, okF_of (fun y hy => ⟨(h y (.tail _ hy)).1, h1 y hy, (h y (.tail _ hy)).2.2⟩) h2]
    rfl
theorem sumP_zip (g f : Int → Int) : ∀ V : List Int, sumP ((V.map g).zip (V.map f)) = sumI f V
  | [] => rfl
  | v :: V => by simp only [List.map_cons, List.zip_cons_cons, sumP, sumI, sumP_zip g f V]
theorem litOf_abs (by' : Int → Int) {v : Int} (hv : 0 < v) : ((litOf by' v).natAbs : Int) = v := by unfold litOf; split <;> omega
theorem normC_valid {by' : Int → Int} {V : List Int} {bd : Int} {c : PBC} (h : normC by' V bd = (c, 0)) (hs : V.Pairwise (· < ·)) (hv : ∀ v ∈ V, 0 < v ∧ v ≤ 65536 ∧ by' v ≠ 0) : pbV c = true := by
  unfold normC at h
  split at h
  · cases h; decide
  · split at h
    · cases h; decide
    · split at h
      · cases h
      · rename_i h1 h2 h3
        cases h
        unfold pbV
        simp only [List.length_map, decide_true, Bool.true_and]
        have hok : okF bd 0 ((V.map (litOf by')).zip (V.map fun v => minI (absI (by' v)) bd)) = true := by
          rw [List.zip_map', ]
          refine okF_of (fun x hx => ?_) ?_
          · obtain ⟨v, hv', rfl⟩ := List.mem_map.1 hx
            obtain ⟨a, b, d⟩ := hv v hv'
            have e := litOf_abs by' a
            refine ⟨?_, by show 0 < ((litOf by' v).natAbs : Int); omega, ?_, ?_⟩
            · show plitB (litOf by' v) = true
              unfold plitB; rw [decide_eq_true_eq]; omega
            · show 1 ≤ minI (absI (by' v)) bd
              unfold minI absI; repeat' split
              all_goals omega
            · show minI (absI (by' v)) bd ≤ bd
              unfold minI; split <;> omega
          · rw [List.pairwise_map]
            refine hs.imp_of_mem fun {x y} hx hy hxy => ?_
            show ((litOf by' x).natAbs : Int) < ((litOf by' y).natAbs : Int)
            rw [litOf_abs by' (hv x hx).1, litOf_abs by' (hv y hy).1]; exact hxy
        rw [hok, sumP_zip, decide_eq_true (show 0 ≤ bd ∧ bd ≤ 16777216 by omega), decide_eq_true (show bd ≤ sumI (fun v => minI (absI (by' v)) bd) V by omega)]
        rfl
theorem normP_form {L K : List Int} {B : Int} {c : PBC} (h : normP L K B = (c, 0)) : (∀ l ∈ L, plitB l = true) ∧ L.length = K.length ∧
    normC (fun v => byTo L K v L.length) ((keysOf L).filter fun v => byTo L K v L.length != 0) (B - negTo L K L.length - sumI (fun v => lowI (byTo L K v L.length)) (keysOf L)) = (c, 0) := by
  unfold normP at h
  split at h
  · cases h
  split at h
  · cases h
  rename_i h1 h2
  refine ⟨fun l hl => ?_, by omega, h⟩
  obtain ⟨j, hj, rfl⟩ := List.mem_iff_getElem.1 hl
  have := allR_get (f := pokAt L K) (by simpa using h2) j hj
  unfold pokAt at this
  rw [Bool.and_eq_true, ix_get hj] at this
  exact this.1
theorem normP_keys {L K : List Int} {B : Int} {c : PBC} (h : normP L K B = (c, 0)) : ∀ v ∈ (keysOf L).filter (fun v => byTo L K v L.length != 0), 0 < v ∧ v ≤ 65536 ∧ byTo L K v L.length ≠ 0 := by
  intro v hv
  obtain ⟨h1, h2⟩ := List.mem_filter.1 hv
  obtain ⟨l, hl, rfl⟩ := mem_keys.1 h1
  have := (normP_form h).1 l hl
  unfold plitB at this
  rw [decide_eq_true_eq] at this
  exact ⟨by omega, by omega, by simpa using h2⟩
theorem normP_valid {L K : List Int} {B : Int} {c : PBC} (h : normP L K B = (c, 0)) : pbV c = true :=
  normC_valid (normP_form h).2.2 ((keys_sorted L).filter _) (normP_keys h)
theorem normP_vars {L K : List Int} {B : Int} {c : PBC} (h : normP L K B = (c, 0)) : ∀ x ∈ c.lits, ∃ l ∈ L, l.natAbs = x.natAbs := by
  intro x hx
  have hf := (normP_form h).2.2
  have hk := normP_keys h
  unfold normC at hf
  split at hf
  · cases hf; cases hx
  · split at hf
    · cases hf; cases hx
    · split at hf
      · cases hf
      · cases hf
        obtain ⟨v, hv, rfl⟩ := List.mem_map.1 hx
        obtain ⟨l, hl, e⟩ := mem_keys.1 (List.mem_filter.1 hv).1
        have := litOf_abs (fun v => byTo L K v L.length) (hk v hv).1
        exact ⟨l, hl, by omega⟩
theorem clauseP_sat {t : Int → Bool} (ht : Tot t) {L : List Int} {c : PBC} (h : clauseP L = (c, 0)) : satC t c = true ↔ ∃ l ∈ L, t l = true := by
  rw [normP_sat ht h, (sumLK_ones (t := t) (S := setL L) (n := (setL L).length) _ (Nat.le_refl _) (Nat.le_refl _)).2]
  constructor
  · rintro ⟨j, hj, h⟩
    exact ⟨_, mem_setL.1 (mem_ix_iff.2 ⟨j, hj, rfl⟩), h⟩
  · rintro ⟨l, hl, h⟩
    obtain ⟨j, hj, rfl⟩ := mem_ix_iff.1 (mem_setL.2 hl)
    exact ⟨j, hj, h⟩
end Go.Proofs.YtjodocheiejkeaaGreatDoor
namespace Go.Proofs.YtjodocheiejkeaaGreatDoor
theorem ix_lft {l m : List Int} {j : Nat} (h : j < l.length) : ix (l ++ m) j = ix l j := by
  unfold ix
  rw [List.getD_eq_getElem?_getD, List.getD_eq_getElem?_getD, List.getElem?_append_left h]
theorem ix_end {l : List Int} {x : Int} : ix (l ++ [x]) l.length = x := by
  unfold ix
  rw [List.getD_eq_getElem?_getD, List.getElem?_append_right (Nat.le_refl _)]
  simp
theorem ix_neg {l : List Int} {j : Nat} (h : j < l.length) : ix (negL l) j = -(ix l j) := by
  unfold ix negL
  simp [List.getD_eq_getElem?_getD, h]
theorem negL_len (l : List Int) : (negL l).length = l.length := by simp [negL]
theorem sumLK_congr {t u : Int → Bool} {L K L' K' : List Int} : ∀ (i : Nat), (∀ j, j < i → t (ix L j) = u (ix L' j) ∧ ix K j = ix K' j) → sumLK t L K i = sumLK u L' K' i
  | 0, _ => rfl
  | i + 1, h => by
    obtain ⟨h1, h2⟩ := h i (by omega)
    simp only [sumLK, sumLK_congr i fun j hj => h j (by omega), h1, h2]
theorem sumLK_app {t : Int → Bool} {L K : List Int} {x y : Int} (h : L.length = K.length) : sumLK t (L ++ [x]) (K ++ [y]) (L ++ [x]).length = sumLK t L K L.length + if t x then y else 0 := by
  rw [List.length_append, List.length_singleton]
  show sumLK t (L ++ [x]) (K ++ [y]) L.length + _ = _
  rw [sumLK_congr (u := t) (L' := L) (K' := K) L.length fun j hj => ⟨by rw [ix_lft hj], ix_lft (by omega)⟩, ix_end, h, ix_end]
theorem sumLK_nonneg {t : Int → Bool} {L K : List Int} : ∀ (i : Nat), (∀ j, j < i → 0 ≤ ix K j) → 0 ≤ sumLK t L K i
  | 0, _ => Int.le_refl _
  | i + 1, h => by
    have h1 := sumLK_nonneg (t := t) (L := L) i fun j hj => h j (by omega)
    have h2 := h i (by omega)
    simp only [sumLK]
    split <;> omega
theorem sumLK_le {t : Int → Bool} {L K : List Int} : ∀ (i : Nat), (∀ j, j < i → 0 ≤ ix K j) → sumLK t L K i ≤ sumTo K i
  | 0, _ => Int.le_refl _
  | i + 1, h => by
    have h1 := sumLK_le (t := t) (L := L) i fun j hj => h j (by omega)
    have h2 := h i (by omega)
    simp only [sumLK, sumTo]
    split <;> omega
theorem sumLK_neg {t : Int → Bool} (ht : Tot t) {L K : List Int} : ∀ (i : Nat), i ≤ L.length → (∀ j, j < i → ix L j ≠ 0) → sumLK t (negL L) K i = sumTo K i - sumLK t L K i
  | 0, _, _ => by simp [sumLK, sumTo]
  | i + 1, hi, h => by
    have ih := sumLK_neg ht (K := K) i (by omega) fun j hj => h j (by omega)
    simp only [sumLK, sumTo]
    rw [ih, ix_neg (by omega), ht _ (h i (by omega))]
    cases t (ix L i) <;> simp <;> omega
theorem normP_ok {L K : List Int} {B : Int} (hl : L.length = K.length) (hlen : L.length ≤ 65536) (hB : -1099511627776 ≤ B ∧ B ≤ 16777216) (hL : ∀ l ∈ L, plitB l = true) (hK : ∀ j, j < L.length → 0 ≤ ix K j ∧ ix K j ≤ 16777216) :
    normP L K B = ((normP L K B).1, 0) := by
  have hp : allR L.length (pokAt L K) = true := allR_true fun j hj => by
    unfold pokAt
    rw [hL _ (ix_mem hj), decide_eq_true (by have := hK j hj; omega)]
    rfl
  have hne : ∀ j, j < L.length → ix L j ≠ 0 := fun j hj => by
    have := hL _ (ix_mem hj)
    unfold plitB at this
    rw [decide_eq_true_eq] at this
    exact this.1
  have hbd : B - negTo L K L.length - sumI (fun v => lowI (byTo L K v L.length)) (keysOf L) ≤ 16777216 := by
    obtain ⟨t, ht⟩ : ∃ t : Int → Bool, t = fun l => if 0 < l then decide (byTo L K l L.length < 0) else !decide (byTo L K (-l) L.length < 0) := ⟨_, rfl⟩
    have htot : Tot t := fun l hl => by
      rw [ht]
      dsimp only
      rcases Int.lt_or_gt_of_ne hl with h | h
      · rw [if_pos (by omega), if_neg (by omega), Bool.not_not]
      · rw [if_neg (by omega), if_pos h, Int.neg_neg]
    have h1 := sum_vars htot (L := L) (K := K) (sorted_nodup (keys_sorted L)) (keys_pos hne) L.length fun j hj => ⟨hne j hj, mem_keys.2 ⟨_, ix_mem hj, rfl⟩⟩
    have h2 := sumLK_nonneg (t := t) (L := L) (K := K) L.length fun j hj => (hK j hj).1
    have h3 : sumI (fun v => if t v then byTo L K v L.length else 0) (keysOf L) = sumI (fun v => lowI (byTo L K v L.length)) (keysOf L) := sumI_congr fun v hv => by
      have hv := keys_pos hne v hv
      have e : t v = decide (byTo L K v L.length < 0) := by rw [ht]; exact if_pos hv
      rw [e]
      unfold lowI
      by_cases h : byTo L K v L.length < 0 <;> simp [h]
    rw [h3] at h1
    omega
  have h0 : (normP L K B).2 = 0 := by
    unfold normP
    rw [if_neg (by omega), if_neg (by rw [hp]; simp)]
    generalize B - negTo L K L.length - sumI (fun v => lowI (byTo L K v L.length)) (keysOf L) = bd at *
    unfold normC
    split
    · rfl
    split
    · rfl
    · rw [if_neg (by omega)]
  exact Prod.ext rfl h0
def bodyTT (t : Int → Bool) (r : GR) : Bool := if r.sum then decide (r.bound ≤ sumLK t r.body r.w r.body.length) else allR r.body.length (fun j => t (ix r.body j))
structure RuleV (r : GR) (n : Int) : Prop where
  rng : 0 ≤ n ∧ n ≤ 4000
  head : ∀ x ∈ r.head, 1 ≤ x ∧ x ≤ n
  body : ∀ x ∈ r.body, x ≠ 0 ∧ -n ≤ x ∧ x ≤ n
  len : r.body.length ≤ 8000 ∧ r.head.length ≤ 8000
  sum : r.sum = true → r.body.length = r.w.length ∧ (∀ j, j < r.w.length → 1 ≤ ix r.w j) ∧ sumTo r.w r.w.length ≤ 1048576 ∧ 0 ≤ r.bound ∧ r.bound ≤ 1048576
theorem sumTo_ge {K : List Int} (h : ∀ j, j < K.length → 1 ≤ ix K j) : ∀ (i : Nat), i ≤ K.length → 0 ≤ sumTo K i ∧ ∀ j, j < i → ix K j ≤ sumTo K i
  | 0, _ => ⟨Int.le_refl _, fun j hj => absurd hj (Nat.not_lt_zero _)⟩
  | i + 1, hi => by
    obtain ⟨h1, h2⟩ := sumTo_ge h i (by omega)
    have h3 := h i (by omega)
    simp only [sumTo]
    refine ⟨by omega, fun j hj => ?_⟩
    by_cases e : j = i
    · subst e; omega
    · have := h2 j (by omega); omega
section
variable {r : GR} {n b : Int}
theorem plit_of {x : Int} (h0 : x ≠ 0) (h1 : -65536 ≤ x ∧ x ≤ 65536) : plitB x = true := by
  unfold plitB
  rw [decide_eq_true_eq]
  exact ⟨h0, h1⟩
def BVar (n b : Int) : Prop := n < b ∧ b ≤ 60000
theorem RuleV.plits (h : RuleV r n) (hb : BVar n b) : (∀ x ∈ r.body ++ [-b], plitB x = true) ∧ (∀ x ∈ negL r.body ++ [b], plitB x = true) ∧ (∀ x ∈ r.head ++ [-b], plitB x = true) ∧ ∀ x ∈ r.body, ∀ y ∈ [-b, x], plitB y = true := by
  have hn := h.rng
  obtain ⟨hb1, hb2⟩ := hb
  refine ⟨fun x hx => ?_, fun x hx => ?_, fun x hx => ?_, fun x hx y hy => ?_⟩
  · rcases List.mem_append.1 hx with hx | hx
    · have := h.body x hx; exact plit_of this.1 (by omega)
    · obtain rfl : x = -b := by simpa using hx
      exact plit_of (by omega) (by omega)
  · rcases List.mem_append.1 hx with hx | hx
    · unfold negL at hx
      obtain ⟨y, hy, rfl⟩ := List.mem_map.1 hx
      have := h.body y hy; exact plit_of (by omega) (by omega)
    · obtain rfl : x = b := by simpa using hx
      exact plit_of (by omega) (by omega)
  · rcases List.mem_append.1 hx with hx | hx
    · have := h.head x hx; exact plit_of (by omega) (by omega)
    · obtain rfl : x = -b := by simpa using hx
      exact plit_of (by omega) (by omega)
  · rcases List.mem_cons.1 hy with rfl | hy
    · exact plit_of (by omega) (by omega)
    · obtain rfl : y = x := by simpa using hy
      have := h.body y hx; exact plit_of this.1 (by omega)
theorem clause_sat {t : Int → Bool} (ht : Tot t) {L : List Int} (hl : ∀ l ∈ L, plitB l = true) (hlen : L.length ≤ 65536) : satC t (clauseP L).1 = true ↔ ∃ l ∈ L, t l = true := clauseP_sat ht (clauseP_fine hl hlen)
theorem RuleV.sum1 (h : RuleV r n) (hb : BVar n b) (hs : r.sum = true) : normP (r.body ++ [-b]) (r.w ++ [r.bound]) r.bound = ((normP (r.body ++ [-b]) (r.w ++ [r.bound]) r.bound).1, 0) := by
  obtain ⟨h1, h2, h3, h4, h5⟩ := h.sum hs
  have hl := h.len
  refine normP_ok (by simp [h1]) (by simp; omega) (by omega) (h.plits hb).1 fun j hj => ?_
  simp only [List.length_append, List.length_singleton] at hj
  by_cases e : j < r.w.length
  · rw [ix_lft e]
    have := h2 j e
    have := (sumTo_ge h2 r.w.length (Nat.le_refl _)).2 j e
    omega
  · obtain rfl : j = r.w.length := by omega
    rw [ix_end]
    omega
theorem RuleV.sum2 (h : RuleV r n) (hb : BVar n b) (hs : r.sum = true) : normP (negL r.body ++ [b]) (r.w ++ [max (restI r) 0]) (restI r) = ((normP (negL r.body ++ [b]) (r.w ++ [max (restI r) 0]) (restI r)).1, 0) := by
  obtain ⟨h1, h2, h3, h4, h5⟩ := h.sum hs
  have hl := h.len
  have h0 := (sumTo_ge h2 r.w.length (Nat.le_refl _)).1
  have hr : -1048576 ≤ restI r ∧ restI r ≤ 1048577 := by unfold restI; omega
  refine normP_ok (by simp [h1, negL_len]) (by simp [negL_len]; omega) (by omega) (h.plits hb).2.1 fun j hj => ?_
  simp only [List.length_append, List.length_singleton, negL_len] at hj
  by_cases e : j < r.w.length
  · rw [ix_lft e]
    have := h2 j e
    have := (sumTo_ge h2 r.w.length (Nat.le_refl _)).2 j e
    omega
  · obtain rfl : j = r.w.length := by omega
    rw [ix_end]
    omega
theorem RuleV.compH_sat (h : RuleV r n) (hb : BVar n b) {t : Int → Bool} (ht : Tot t) : (∀ c ∈ compH r b, satC t c = true) ↔ t b = bodyTT t r := by
  have hn := h.rng
  have hb0 : b ≠ 0 := by have := hb.1; omega
  have hne : ∀ j, j < r.body.length → ix r.body j ≠ 0 := fun j hj => (h.body _ (ix_mem hj)).1
  have hl := h.len
  unfold compH bodyTT
  cases hs : r.sum with
  | true =>
    obtain ⟨h1, h2, h3, h4, h5⟩ := h.sum hs
    have e1 := normP_sat ht (h.sum1 hb hs)
    have e2 := normP_sat ht (h.sum2 hb hs)
    rw [sumLK_app (by omega), ht b hb0] at e1
    rw [sumLK_app (by rw [negL_len]; omega), negL_len, sumLK_neg ht _ (Nat.le_refl _) hne] at e2
    have h6 := sumLK_nonneg (t := t) (L := r.body) (K := r.w) r.body.length fun j hj => by have := h2 j (by omega); omega
    have h7 := sumLK_le (t := t) (L := r.body) (K := r.w) r.body.length fun j hj => by have := h2 j (by omega); omega
    have hr : restI r = 1 - r.bound + sumTo r.w r.body.length := by unfold restI; rw [h1]
    rw [hr] at e2
    simp only [if_true, List.mem_cons, List.not_mem_nil, or_false, forall_eq_or_imp, forall_eq, e1, hr, e2]
    cases t b <;> simp <;> omega
  | false =>
    simp only [Bool.false_eq_true, if_false, List.mem_append, List.mem_map, List.mem_singleton]
    have e2 := clause_sat ht (h.plits hb).2.1 (by simp [negL_len]; omega)
    have e1 := fun l hl => clause_sat ht ((h.plits hb).2.2.2 l hl) (by simp)
    constructor
    · intro hc
      have c2 := e2.1 (hc _ (.inr rfl))
      have c1 := fun l hl => (e1 l hl).1 (hc _ (.inl ⟨l, hl, rfl⟩))
      cases hbt : t b with
      | true =>
        refine (allR_true fun j hj => ?_).symm
        obtain ⟨x, hx, e⟩ := c1 _ (ix_mem hj)
        rcases List.mem_cons.1 hx with rfl | hx
        · rw [ht b hb0, hbt] at e; cases e
        · obtain rfl : x = ix r.body j := by simpa using hx
          exact e
      | false =>
        obtain ⟨x, hx, e⟩ := c2
        rcases List.mem_append.1 hx with hx | hx
        · unfold negL at hx
          obtain ⟨y, hy, rfl⟩ := List.mem_map.1 hx
          rw [ht y (h.body y hy).1] at e
          obtain ⟨j, hj, rfl⟩ := mem_ix.1 hy
          refine (allR_false j hj ?_).symm
          simpa using e
        · obtain rfl : x = b := by simpa using hx
          rw [hbt] at e; cases e
    · rintro hbt c (⟨l, hl, rfl⟩ | rfl)
      · refine (e1 l hl).2 ?_
        cases hbb : t b with
        | true =>
          rw [hbb] at hbt
          obtain ⟨j, hj, rfl⟩ := mem_ix.1 hl
          exact ⟨_, by simp, allR_get hbt.symm j hj⟩
        | false => exact ⟨-b, by simp, by rw [ht b hb0, hbb]; rfl⟩
      · refine e2.2 ?_
        cases hbb : t b with
        | true => exact ⟨b, by simp, hbb⟩
        | false =>
          rw [hbb] at hbt
          have : ∃ j, j < r.body.length ∧ t (ix r.body j) = false := by
            apply Classical.byContradiction
            intro hno
            rw [allR_true fun j hj => by
              cases e : t (ix r.body j) with
              | true => rfl
              | false => exact (hno ⟨j, hj, e⟩).elim] at hbt
            cases hbt
          obtain ⟨j, hj, e⟩ := this
          exact ⟨-(ix r.body j), List.mem_append_left _ (List.mem_map.2 ⟨_, ix_mem hj, rfl⟩), by rw [ht _ (hne j hj), e]; rfl⟩
theorem RuleV.comp_sat (h : RuleV r n) (hb : BVar n b) {t : Int → Bool} (ht : Tot t) : (∀ c ∈ compR r b, satC t c = true) ↔ t b = bodyTT t r ∧ (r.choice = false → t b = true → ∃ x ∈ r.head, t x = true) := by
  have hn := h.rng
  have hb0 : b ≠ 0 := by have := hb.1; omega
  have e3 := clause_sat ht (h.plits hb).2.2.1 (by have := h.len; simp; omega)
  have e4 : (∃ l ∈ r.head ++ [-b], t l = true) ↔ (t b = true → ∃ x ∈ r.head, t x = true) := by
    constructor
    · rintro ⟨l, hl, e⟩ hbt
      rcases List.mem_append.1 hl with hl | hl
      · exact ⟨l, hl, e⟩
      · obtain rfl : l = -b := by simpa using hl
        rw [ht b hb0, hbt] at e; cases e
    · intro hi
      cases hbt : t b with
      | true => obtain ⟨x, hx, e⟩ := hi hbt; exact ⟨x, List.mem_append_left _ hx, e⟩
      | false => exact ⟨-b, by simp, by rw [ht b hb0, hbt]; rfl⟩
  unfold compR
  simp only [List.mem_append]
  constructor
  · intro hc
    refine ⟨(h.compH_sat hb ht).1 fun c hm => hc c (.inl hm), fun hch => e4.1 (e3.1 (hc _ (.inr (by rw [hch]; simp))))⟩
  · rintro ⟨h1, h2⟩ c (hm | hm)
    · exact (h.compH_sat hb ht).2 h1 c hm
    · cases hch : r.choice with
      | true => rw [hch] at hm; simp at hm
      | false =>
        rw [hch] at hm
        obtain rfl : c = _ := by simpa using hm
        exact e3.2 (e4.2 (h2 hch))
end
theorem mem_compTo {p : GP} {c : PBC} : ∀ k, c ∈ compTo p k ↔ ∃ i, i < k ∧ c ∈ compR (ixR p.rules i) (p.n + 1 + i)
  | 0 => by simp [compTo]
  | k + 1 => by
    rw [compTo, List.mem_append, mem_compTo k]
    constructor
    · rintro (⟨i, hi, h⟩ | h)
      · exact ⟨i, by omega, h⟩
      · exact ⟨k, by omega, h⟩
    · rintro ⟨i, hi, h⟩
      by_cases e : i = k
      · subst e; exact .inr h
      · exact .inl ⟨i, by omega, h⟩
theorem mem_atomTo {p : GP} {c : PBC} : ∀ k, c ∈ atomTo p k ↔ ∃ i, i < k ∧ c = atomC p ((i : Int) + 1)
  | 0 => by simp [atomTo]
  | k + 1 => by
    rw [atomTo, List.mem_append, mem_atomTo k]
    constructor
    · rintro (⟨i, hi, h⟩ | h)
      · exact ⟨i, by omega, h⟩
      · exact ⟨k, by omega, by simpa using h⟩
    · rintro ⟨i, hi, h⟩
      by_cases e : i = k
      · subst e; exact .inr (by simpa using h)
      · exact .inl ⟨i, by omega, h⟩
theorem mem_supAt {p : GP} {a x : Int} : ∀ k, x ∈ supAt' p a k ↔ ∃ i : Nat, i < k ∧ a ∈ (ixR p.rules i).head ∧ x = p.n + 1 + i
  | 0 => by simp [supAt']
  | k + 1 => by
    rw [supAt', List.mem_append, mem_supAt k]
    constructor
    · rintro (⟨i, hi, h⟩ | h)
      · exact ⟨i, by omega, h⟩
      · split at h
        · rename_i hm; exact ⟨k, by omega, hm, by simpa using h⟩
        · simp at h
    · rintro ⟨i, hi, h⟩
      by_cases e : i = k
      · subst e; exact .inr (by rw [if_pos h.1]; simpa using h.2)
      · exact .inl ⟨i, by omega, h⟩
theorem supAt_len (p : GP) (a : Int) : ∀ k, (supAt' p a k).length ≤ k
  | 0 => by simp [supAt']
  | k + 1 => by
    have := supAt_len p a k
    rw [supAt', List.length_append]
    split <;> simp <;> omega
structure CompV (p : GP) : Prop where
  n : 0 ≤ p.n ∧ p.n ≤ 4000
  rules : p.rules.length ≤ 40000
  rule : ∀ i, i < p.rules.length → RuleV (ixR p.rules i) p.n
theorem CompV.bvar {p : GP} (h : CompV p) {i : Nat} (hi : i < p.rules.length) : BVar p.n (p.n + 1 + i) := by
  have h1 := h.n
  have h2 := h.rules
  exact ⟨by omega, by omega⟩
theorem CompV.atom_lits {p : GP} (h : CompV p) {a : Int} (ha : 1 ≤ a ∧ a ≤ p.n) : (∀ x ∈ supAt' p a p.rules.length ++ [-a], plitB x = true) ∧ (supAt' p a p.rules.length ++ [-a]).length ≤ 65536 := by
  have h1 := h.n
  have h2 := h.rules
  have h3 := supAt_len p a p.rules.length
  refine ⟨fun x hx => ?_, by simp; omega⟩
  rcases List.mem_append.1 hx with hx | hx
  · obtain ⟨i, hi, -, rfl⟩ := (mem_supAt _).1 hx
    exact plit_of (by omega) (by omega)
  · obtain rfl : x = -a := by simpa using hx
    exact plit_of (by omega) (by omega)
structure CompT (p : GP) (t : Int → Bool) : Prop where
  body : ∀ i : Nat, i < p.rules.length → t (p.n + 1 + i) = bodyTT t (ixR p.rules i)
  head : ∀ i : Nat, i < p.rules.length → (ixR p.rules i).choice = false → t (p.n + 1 + i) = true → ∃ x ∈ (ixR p.rules i).head, t x = true
  supp : ∀ a : Int, 1 ≤ a → a ≤ p.n → t a = true → ∃ i : Nat, i < p.rules.length ∧ a ∈ (ixR p.rules i).head ∧ t (p.n + 1 + i) = true
theorem CompV.sat {p : GP} (h : CompV p) {t : Int → Bool} (ht : Tot t) : (∀ c ∈ compL p, satC t c = true) ↔ CompT p t := by
  have hat : ∀ a : Int, 1 ≤ a → a ≤ p.n → (satC t (atomC p a) = true ↔ (t a = true → ∃ i : Nat, i < p.rules.length ∧ a ∈ (ixR p.rules i).head ∧ t (p.n + 1 + i) = true)) := fun a h1 h2 => by
    obtain ⟨g1, g2⟩ := h.atom_lits ⟨h1, h2⟩
    unfold atomC
    rw [clause_sat ht g1 g2]
    constructor
    · rintro ⟨l, hl, e⟩ hta
      rcases List.mem_append.1 hl with hl | hl
      · obtain ⟨i, hi, hm, rfl⟩ := (mem_supAt _).1 hl
        exact ⟨i, hi, hm, e⟩
      · obtain rfl : l = -a := by simpa using hl
        rw [ht a (by omega), hta] at e; cases e
    · intro hi
      cases hta : t a with
      | true => obtain ⟨i, h3, h4, h5⟩ := hi hta; exact ⟨_, List.mem_append_left _ ((mem_supAt _).2 ⟨i, h3, h4, rfl⟩), h5⟩
      | false => exact ⟨-a, by simp, by rw [ht a (by omega), hta]; rfl⟩
  unfold compL
  simp only [List.mem_append]
  constructor
  · intro hc
    have hr := fun i (hi : i < p.rules.length) => ((h.rule i hi).comp_sat (h.bvar hi) ht).1 fun c hm => hc c (.inl ((mem_compTo _).2 ⟨i, hi, hm⟩))
    refine ⟨fun i hi => (hr i hi).1, fun i hi => (hr i hi).2, fun a h1 h2 => (hat a h1 h2).1 (hc _ (.inr ((mem_atomTo _).2 ⟨(a - 1).toNat, by omega, ?_⟩)))⟩
    rw [show (((a - 1).toNat : Nat) : Int) + 1 = a by omega]
  · rintro ⟨h1, h2, h3⟩ c (hm | hm)
    · obtain ⟨i, hi, hm⟩ := (mem_compTo _).1 hm
      exact ((h.rule i hi).comp_sat (h.bvar hi) ht).2 ⟨h1 i hi, h2 i hi⟩ c hm
    · obtain ⟨i, hi, rfl⟩ := (mem_atomTo _).1 hm
      exact (hat _ (by omega) (by omega)).2 (h3 _ (by omega) (by omega))
theorem CompV.fine {p : GP} (h : CompV p) : ∀ c ∈ compL p, pbV c = true ∧ ∀ x ∈ c.lits, (x.natAbs : Int) ≤ p.n + p.rules.length := by
  have hcl : ∀ (L : List Int), (∀ l ∈ L, plitB l = true) → L.length ≤ 65536 → (∀ l ∈ L, (l.natAbs : Int) ≤ p.n + p.rules.length) → pbV (clauseP L).1 = true ∧ ∀ x ∈ (clauseP L).1.lits, (x.natAbs : Int) ≤ p.n + p.rules.length := fun L h1 h2 h3 => by
    have e := clauseP_fine h1 h2
    refine ⟨normP_valid (show normP (setL L) (ones (setL L).length) 1 = _ from e), fun x hx => ?_⟩
    obtain ⟨l, hl, e2⟩ := normP_vars (show normP (setL L) (ones (setL L).length) 1 = _ from e) x hx
    rw [← e2]
    exact h3 l (mem_setL.1 hl)
  have hno : ∀ (L K : List Int) (B : Int), normP L K B = ((normP L K B).1, 0) → (∀ l ∈ L, (l.natAbs : Int) ≤ p.n + p.rules.length) → pbV (normP L K B).1 = true ∧ ∀ x ∈ (normP L K B).1.lits, (x.natAbs : Int) ≤ p.n + p.rules.length := fun L K B e h3 => by
    refine ⟨normP_valid e, fun x hx => ?_⟩
    obtain ⟨l, hl, e2⟩ := normP_vars e x hx
    rw [← e2]
    exact h3 l hl
  intro c hc
  have hn := h.n
  rcases List.mem_append.1 hc with hm | hm
  · obtain ⟨i, hi, hm⟩ := (mem_compTo _).1 hm
    have hr := h.rule i hi
    have hb := h.bvar hi
    obtain ⟨p1, p2, p3, p4⟩ := hr.plits hb
    have hlen := hr.len
    have b1 : ∀ x ∈ (ixR p.rules i).body ++ [-(p.n + 1 + (i : Int))], (x.natAbs : Int) ≤ p.n + p.rules.length := fun x hx => by
      rcases List.mem_append.1 hx with hx | hx
      · have := hr.body x hx; omega
      · obtain rfl : x = _ := by simpa using hx
        omega
    have b2 : ∀ x ∈ negL (ixR p.rules i).body ++ [p.n + 1 + (i : Int)], (x.natAbs : Int) ≤ p.n + p.rules.length := fun x hx => by
      rcases List.mem_append.1 hx with hx | hx
      · unfold negL at hx
        obtain ⟨y, hy, rfl⟩ := List.mem_map.1 hx
        have := hr.body y hy; omega
      · obtain rfl : x = _ := by simpa using hx
        omega
    rcases List.mem_append.1 hm with hm | hm
    · unfold compH at hm
      split at hm
      · rename_i hs
        rcases List.mem_cons.1 hm with rfl | hm
        · exact hno _ _ _ (hr.sum1 hb hs) b1
        · obtain rfl : c = _ := by simpa using hm
          exact hno _ _ _ (hr.sum2 hb hs) b2
      · rcases List.mem_append.1 hm with hm | hm
        · obtain ⟨l, hl, rfl⟩ := List.mem_map.1 hm
          refine hcl _ (p4 l hl) (by simp) fun x hx => ?_
          rcases List.mem_cons.1 hx with rfl | hx
          · omega
          · obtain rfl : x = l := by simpa using hx
            have := hr.body x hl; omega
        · obtain rfl : c = _ := by simpa using hm
          exact hcl _ p2 (by simp [negL_len]; omega) b2
    · split at hm
      · simp at hm
      · obtain rfl : c = _ := by simpa using hm
        refine hcl _ p3 (by simp; omega) fun x hx => ?_
        rcases List.mem_append.1 hx with hx | hx
        · have := hr.head x hx; omega
        · obtain rfl : x = _ := by simpa using hx
          omega
  · obtain ⟨i, hi, rfl⟩ := (mem_atomTo _).1 hm
    obtain ⟨g1, g2⟩ := h.atom_lits (a := (i : Int) + 1) (by omega)
    refine hcl _ g1 g2 fun x hx => ?_
    rcases List.mem_append.1 hx with hx | hx
    · obtain ⟨j, hj, -, rfl⟩ := (mem_supAt _).1 hx
      omega
    · obtain rfl : x = -((i : Int) + 1) := by simpa using hx
      omega
def compN (r : GR) : Nat := (if r.sum then 2 else r.body.length + 1) + (if r.choice then 0 else 1)
def compNs (p : GP) : Nat → Nat
  | 0 => 0
  | k + 1 => compNs p k + compN (ixR p.rules k)
theorem compR_len (r : GR) (b : Int) : (compR r b).length = compN r := by
  unfold compR compH compN
  rw [List.length_append]
  cases r.sum <;> cases r.choice <;> simp
theorem compTo_len (p : GP) : ∀ k, (compTo p k).length = compNs p k
  | 0 => rfl
  | k + 1 => by rw [compTo, List.length_append, compTo_len p k, compR_len, compNs]
theorem atomTo_len (p : GP) : ∀ k, (atomTo p k).length = k
  | 0 => rfl
  | k + 1 => by rw [atomTo, List.length_append, atomTo_len p k]; rfl
end Go.Proofs.YtjodocheiejkeaaGreatDoor
namespace Go.Proofs.YtjodocheiejkeaaGreatDoor
open Go.RowKit
def tsumP : GP := ⟨3, [⟨#[97]⟩, ⟨#[98]⟩, ⟨#[99]⟩], [], [⟨false, [3], true, 2, [1, 2], [1, 2]⟩], []⟩
def cq1 : PBC := ⟨[-2, -3], [1, 1], 1⟩
def cq2 : PBC := ⟨[2, 3], [1, 1], 1⟩
def cq3 : PBC := ⟨[1, -3], [1, 1], 1⟩
def cq4 : PBC := ⟨[-1, -4], [1, 1], 1⟩
def cq5 : PBC := ⟨[1, 4], [1, 1], 1⟩
def cq6 : PBC := ⟨[2, -4], [1, 1], 1⟩
def cq7 : PBC := ⟨[-1, 3], [1, 1], 1⟩
def cq8 : PBC := ⟨[-2, 4], [1, 1], 1⟩
theorem two_valid : validE twoP = 0 := by kernel_rfl
theorem tsum_valid : validE tsumP = 0 := by kernel_rfl
theorem two_comp : compL twoP = [cq1, cq2, cq3, cq4, cq5, cq6, cq7, cq8] := by kernel_rfl
theorem tsum_len : (compL tsumP).length = 6 := by kernel_rfl
theorem tsum_0 : (compL tsumP).getD 0 default = ct1 := by kernel_rfl
theorem tsum_1 : (compL tsumP).getD 1 default = ct2 := by kernel_rfl
theorem tsum_2 : (compL tsumP).getD 2 default = ct3 := by kernel_rfl
theorem two_ext : extA twoP [1] = [1, -1, 1, -1] := by kernel_rfl
def smallC (c : PBC) : Bool := pbV c && (c.lits.zip c.coefs).all (fun q => decide (q.1.natAbs < 100 ∧ 0 ≤ q.2 ∧ q.2 < 100)) && decide (0 ≤ c.bound ∧ c.bound < 100) && decide (c.lits.length = c.coefs.length ∧ c.lits.length ≤ 1000)
theorem smallC_all : (compL twoP).all smallC = true := by rw [two_comp]; kernel_rfl
theorem small_t1 : smallC ct1 = true := by kernel_rfl
theorem small_t2 : smallC ct2 = true := by kernel_rfl
theorem small_t3 : smallC ct3 = true := by kernel_rfl
theorem d4 : Lib.decDigits 4 = [52] := by unfold Lib.decDigits; rfl
theorem st_cq1 : strT cq1 = [49, 32, 126, 120, 50, 32, 49, 32, 126, 120, 51, 32, 62, 61, 32, 49] := by simp [strT, headT, itemT, cq1, d1, d2, d3]
theorem st_cq2 : strT cq2 = [49, 32, 120, 50, 32, 49, 32, 120, 51, 32, 62, 61, 32, 49] := by simp [strT, headT, itemT, cq2, d1, d2, d3]
theorem st_cq3 : strT cq3 = [49, 32, 120, 49, 32, 49, 32, 126, 120, 51, 32, 62, 61, 32, 49] := by simp [strT, headT, itemT, cq3, d1, d3]
theorem st_cq4 : strT cq4 = [49, 32, 126, 120, 49, 32, 49, 32, 126, 120, 52, 32, 62, 61, 32, 49] := by simp [strT, headT, itemT, cq4, d1, d4]
theorem st_cq5 : strT cq5 = [49, 32, 120, 49, 32, 49, 32, 120, 52, 32, 62, 61, 32, 49] := by simp [strT, headT, itemT, cq5, d1, d4]
theorem st_cq6 : strT cq6 = [49, 32, 120, 50, 32, 49, 32, 126, 120, 52, 32, 62, 61, 32, 49] := by simp [strT, headT, itemT, cq6, d1, d2, d4]
theorem st_cq7 : strT cq7 = [49, 32, 126, 120, 49, 32, 49, 32, 120, 51, 32, 62, 61, 32, 49] := by simp [strT, headT, itemT, cq7, d1, d3]
theorem st_cq8 : strT cq8 = [49, 32, 126, 120, 50, 32, 49, 32, 120, 52, 32, 62, 61, 32, 49] := by simp [strT, headT, itemT, cq8, d1, d2, d4]
theorem st_ct1 : strT ct1 = [49, 32, 120, 49, 32, 50, 32, 120, 50, 32, 50, 32, 126, 120, 52, 32, 62, 61, 32, 50] := by simp [strT, headT, itemT, ct1, d1, d2, d4]
theorem st_ct2 : strT ct2 = [49, 32, 126, 120, 49, 32, 50, 32, 126, 120, 50, 32, 50, 32, 120, 52, 32, 62, 61, 32, 50] := by simp [strT, headT, itemT, ct2, d1, d2, d4]
theorem st_ct3 : strT ct3 = [49, 32, 120, 51, 32, 49, 32, 126, 120, 52, 32, 62, 61, 32, 49] := by simp [strT, headT, itemT, ct3, d1, d3, d4]
def textL (l : List PBC) : List ByteArray := l.map fun c => ⟨(strT c).toArray⟩
def twoT : List ByteArray := [⟨#[49, 32, 126, 120, 50, 32, 49, 32, 126, 120, 51, 32, 62, 61, 32, 49]⟩, ⟨#[49, 32, 120, 50, 32, 49, 32, 120, 51, 32, 62, 61, 32, 49]⟩, ⟨#[49, 32, 120, 49, 32, 49, 32, 126, 120, 51, 32, 62, 61, 32, 49]⟩, ⟨#[49, 32, 126, 120, 49, 32, 49, 32, 126, 120, 52, 32, 62, 61, 32, 49]⟩, ⟨#[49, 32, 120, 49, 32, 49, 32, 120, 52, 32, 62, 61, 32, 49]⟩, ⟨#[49, 32, 120, 50, 32, 49, 32, 126, 120, 52, 32, 62, 61, 32, 49]⟩, ⟨#[49, 32, 126, 120, 49, 32, 49, 32, 120, 51, 32, 62, 61, 32, 49]⟩, ⟨#[49, 32, 126, 120, 50, 32, 49, 32, 120, 52, 32, 62, 61, 32, 49]⟩]
theorem two_text : textL (compL twoP) = twoT := by
  rw [two_comp]
  simp only [textL, List.map_cons, List.map_nil, st_cq1, st_cq2, st_cq3, st_cq4, st_cq5, st_cq6, st_cq7, st_cq8]
  rfl
theorem nil_pbs (w : World) : PBsIs w (.slice none 0 0) [] := ⟨fun _ => undef, fun _ => undef, ⟨none, 0, rfl, Nat.le_refl _, by unfold maxLen; omega, by simp, fun h => absurd h (by simp)⟩, fun i hi => absurd hi (by simp)⟩
section
variable {B n : Nat} {xs : List Value} {v : Value} {w w' : World} {L : List CQ}
theorem flat3 : ∀ (L : List CQ) (i j : Nat), i < L.length → j < 3 → (L.flatMap cells3)[i * 3 + j]? = (cells3 (L.getD i default))[j]?
  | [], i, j, h, _ => absurd h (by simp)
  | q :: L, 0, j, _, hj => by
    rw [List.flatMap_cons, List.getElem?_append_left (by simp [cells3]; omega)]
    simp
  | q :: L, i + 1, j, h, hj => by
    rw [List.flatMap_cons, List.getElem?_append_right (by simp [cells3]; omega)]
    have := flat3 L i j (by simpa using h) hj
    rw [show (i + 1) * 3 + j - (cells3 q).length = i * 3 + j by simp [cells3]; omega, this]
    simp
theorem MineC.pbs (h : MineC B v L w) (l : List PBC) (hl : L.map (·.1) = l) (hfit : L.length * 56 ≤ 140737488351232) : PBsIs w v l := by
  have hlen' : l.length = L.length := by rw [← hl]; simp
  have hq : ∀ i, i < l.length → L.getD i default ∈ L ∧ (L.getD i default).1 = ixC l i := fun i hi => by
    have hi' : i < L.length := by omega
    have e : L.getD i default = L[i] := by simp [List.getD_eq_getElem?_getD, List.getElem?_eq_getElem hi']
    rw [e]
    refine ⟨List.getElem_mem hi', ?_⟩
    subst hl
    simp [ixC, List.getD_eq_getElem?_getD, List.getElem?_eq_getElem hi']
  refine ⟨fun i => (L.getD i default).2.1, fun i => (L.getD i default).2.2, ?_, fun i hi => ?_⟩
  · rw [hlen']
    rcases h.row.2 with ⟨rfl, h0⟩ | ⟨g, cap, cur, rfl, hb, hg, hn, hm, hs, hx⟩
    · exact ⟨none, 0, by rw [h0], by omega, by unfold maxLen; omega, by omega, fun hp => by omega⟩
    · refine ⟨_, cap, rfl, hn, hm, hfit, fun _ => ⟨g, 0, rfl, (Array.getElem?_eq_some_iff.1 hg).1, fun i hi j hj => ?_⟩⟩
      have h6 := flat3 L i j hi hj
      rw [← hx, List.getElem?_take_of_lt (by omega)] at h6
      rw [cell_of_row w g (0 + i * 3 + j) cur _ (0, 0) hg, Nat.zero_add]
      have e2 := (hq i (by omega)).2
      dsimp only
      rw [← e2]
      have : cur[i * 3 + j]? = cur.toList[i * 3 + j]? := by simp
      rw [this, h6]
      rcases (show j = 0 ∨ j = 1 ∨ j = 2 by omega) with rfl | rfl | rfl <;> rfl
  · obtain ⟨hm, e⟩ := hq i hi
    obtain ⟨h1, h2, h3, h4, h5⟩ := h.each _ hm
    rw [← e]
    exact ⟨h1.ints (by omega), h2.ints (by omega), h3⟩
end
theorem Blk.strs {w : World} {b : Nat} {l : List ByteArray} (h : Blk w b (l.map Value.string) 9) (hs : ∀ x ∈ l, x.size ≤ 1000) (hl : l.length ≤ 1000) : Strs w (.slice (some ⟨b, 0, none⟩) l.length l.length) l := by
  refine ⟨⟨_, l.length, rfl, Nat.le_refl _, by unfold maxLen; omega, by omega, fun _ => ⟨b, 0, rfl, h.lt, fun i hi => ?_⟩⟩, fun i => ?_⟩
  · rw [Nat.zero_add, h.cell]
    simp [ixS, List.getD_eq_getElem?_getD, hi]
  · unfold ixS
    rw [List.getD_eq_getElem?_getD]
    cases e : l[i]? with
    | none => decide
    | some x =>
      have := hs x (List.mem_of_getElem? e)
      simp only [Option.getD_some]
      omega
theorem nil_mins (w : World) : MinsIs w (.slice none 0 0) [] := ⟨fun _ => undef, fun _ => undef, ⟨none, 0, rfl, Nat.le_refl _, by unfold maxLen; omega, by simp, fun h => absurd h (by simp)⟩, fun i hi => absurd hi (by simp)⟩
theorem inI_small {x : Int} (h : -1000000 ≤ x ∧ x ≤ 1000000) : InI x := by unfold InI; omega
end Go.Proofs.YtjodocheiejkeaaGreatDoor
