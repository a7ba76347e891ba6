/- My texts PbV, Fn0, Few, Lp1, CpP, merged. -/
import Derived.Test.YtoahecjdkgeamaaGreatDoorM04
import Derived.Test.YtoahecjdkgeamaaGreatDoorM00
import Derived.Deep.DeepCutAuto

/- Pseudo-Boolean constraints: validity (plain), clauses. -/
namespace Go.Proofs.YtoahecjdkgeamaaGreatDoor

/-! ### Valid -/
def chkB (bd last : Int) (x : Int × Int) : Bool := plitB x.1 && decide (last < (x.1.natAbs : Int)) && decide (1 ≤ x.2) && decide (x.2 ≤ bd)
def lastF (last : Int) (l : List (Int × Int)) : Int := l.foldl (fun _ x => (x.1.natAbs : Int)) last
def okF (bd : Int) : Int → List (Int × Int) → Bool
  | _, [] => true
  | last, x :: l => chkB bd last x && okF bd (x.1.natAbs : Int) l
def sumP : List (Int × Int) → Int
  | [] => 0
  | x :: l => x.2 + sumP l

theorem lastF_snoc (last : Int) (l : List (Int × Int)) (x : Int × Int) : lastF last (l ++ [x]) = (x.1.natAbs : Int) := by simp [lastF]
theorem okF_snoc (bd : Int) : ∀ (l : List (Int × Int)) (last : Int) (x : Int × Int), okF bd last (l ++ [x]) = (okF bd last l && chkB bd (lastF last l) x)
  | [], last, x => by simp [okF, lastF]
  | y :: l, last, x => by
    have ih := okF_snoc bd l (y.1.natAbs : Int) x
    simp only [List.cons_append, okF, ih, lastF, List.foldl_cons, Bool.and_assoc]
theorem sumP_snoc : ∀ (l : List (Int × Int)) (x : Int × Int), sumP (l ++ [x]) = sumP l + x.2
  | [], x => by simp [sumP]
  | y :: l, x => by simp only [List.cons_append, sumP, sumP_snoc l x]; omega

/-- In order: the last variable is at least the number, and the sum is bounded. -/
theorem okF_bound {bd : Int} : ∀ (l : List (Int × Int)) (last : Int), 0 ≤ last → okF bd last l = true → last + l.length ≤ lastF last l ∧ 0 ≤ sumP l ∧ sumP l ≤ bd * l.length ∧ (l ≠ [] → lastF last l ≤ 65536)
  | [], last, h, _ => by simp [lastF, sumP]
  | x :: l, last, h, ho => by
    unfold okF chkB plitB at ho
    simp only [Bool.and_eq_true, decide_eq_true_eq] at ho
    obtain ⟨⟨⟨⟨h1, h2⟩, h3⟩, h4⟩, h5⟩ := ho
    obtain ⟨i1, i2, i3, i4⟩ := okF_bound l (x.1.natAbs : Int) (by omega) h5
    have e : lastF last (x :: l) = lastF (x.1.natAbs : Int) l := rfl
    rw [e]
    simp only [sumP, List.length_cons]
    push_cast
    rw [Int.mul_add]
    refine ⟨by omega, by omega, by omega, fun _ => ?_⟩
    cases l with
    | nil => simp only [lastF, List.foldl_nil]; omega
    | cons y l => exact i4 (by simp)

/-- Valid: the normal form. -/
def pbV (c : PBC) : Bool :=
  decide (c.lits.length = c.coefs.length) && decide (0 ≤ c.bound ∧ c.bound ≤ 16777216) && okF c.bound 0 (c.lits.zip c.coefs) && (decide (c.bound ≤ sumP (c.lits.zip c.coefs)) || (decide (c.lits.length = 0) && decide (c.bound = 1)))

theorem okF_false {bd : Int} : ∀ (l r : List (Int × Int)) (last : Int), okF bd last l = false → okF bd last (l ++ r) = false
  | [], r, last, h => by simp [okF] at h
  | x :: l, r, last, h => by
    simp only [List.cons_append, okF, Bool.and_eq_false_iff] at h ⊢
    rcases h with h | h
    · exact .inl h
    · exact .inr (okF_false l r _ h)


/-! ### The normal form is valid -/
theorem okF_of {bd : Int} : ∀ {l : List (Int × Int)} {last : Int}, (∀ x ∈ l, plitB x.1 = true ∧ last < (x.1.natAbs : Int) ∧ 1 ≤ x.2 ∧ x.2 ≤ bd) → l.Pairwise (fun x y => (x.1.natAbs : Int) < (y.1.natAbs : Int)) → okF bd last l = true
  | [], _, _, _ => rfl
  | x :: l, last, h, hp => by
    obtain ⟨h1, h2⟩ := List.pairwise_cons.1 hp
    obtain ⟨a, b, c, d⟩ := h x (.head _)
    unfold okF chkB
    rw [a, decide_eq_true b, decide_eq_true c, decide_eq_true d, okF_of (fun y hy => ⟨(h y (.tail _ hy)).1, h1 y hy, (h y (.tail _ hy)).2.2⟩) h2]
    rfl

theorem sumP_zip (g f : Int → Int) : ∀ V : List Int, sumP ((V.map g).zip (V.map f)) = sumI f V
  | [] => rfl
  | v :: V => by simp only [List.map_cons, List.zip_cons_cons, sumP, sumI, sumP_zip g f V]

theorem litOf_abs (by' : Int → Int) {v : Int} (hv : 0 < v) : ((litOf by' v).natAbs : Int) = v := by unfold litOf; split <;> omega

theorem normC_valid {by' : Int → Int} {V : List Int} {bd : Int} {c : PBC} (h : normC by' V bd = (c, 0)) (hs : V.Pairwise (· < ·)) (hv : ∀ v ∈ V, 0 < v ∧ v ≤ 65536 ∧ by' v ≠ 0) : pbV c = true := by
  unfold normC at h
  split at h
  · cases h; decide
  · split at h
    · cases h; decide
    · split at h
      · cases h
      · rename_i h1 h2 h3
        cases h
        unfold pbV
        simp only [List.length_map, decide_true, Bool.true_and]
        have hok : okF bd 0 ((V.map (litOf by')).zip (V.map fun v => minI (absI (by' v)) bd)) = true := by
          rw [List.zip_map', ]
          refine okF_of (fun x hx => ?_) ?_
          · obtain ⟨v, hv', rfl⟩ := List.mem_map.1 hx
            obtain ⟨a, b, d⟩ := hv v hv'
            have e := litOf_abs by' a
            refine ⟨?_, by show 0 < ((litOf by' v).natAbs : Int); omega, ?_, ?_⟩
            · show plitB (litOf by' v) = true
              unfold plitB; rw [decide_eq_true_eq]; omega
            · show 1 ≤ minI (absI (by' v)) bd
              unfold minI absI; repeat' split
              all_goals omega
            · show minI (absI (by' v)) bd ≤ bd
              unfold minI; split <;> omega
          · rw [List.pairwise_map]
            refine hs.imp_of_mem fun {x y} hx hy hxy => ?_
            show ((litOf by' x).natAbs : Int) < ((litOf by' y).natAbs : Int)
            rw [litOf_abs by' (hv x hx).1, litOf_abs by' (hv y hy).1]; exact hxy
        rw [hok, sumP_zip, decide_eq_true (show 0 ≤ bd ∧ bd ≤ 16777216 by omega), decide_eq_true (show bd ≤ sumI (fun v => minI (absI (by' v)) bd) V by omega)]
        rfl

theorem normP_form {L K : List Int} {B : Int} {c : PBC} (h : normP L K B = (c, 0)) : (∀ l ∈ L, plitB l = true) ∧ L.length = K.length ∧
    normC (fun v => byTo L K v L.length) ((keysOf L).filter fun v => byTo L K v L.length != 0) (B - negTo L K L.length - sumI (fun v => lowI (byTo L K v L.length)) (keysOf L)) = (c, 0) := by
  unfold normP at h
  split at h
  · cases h
  split at h
  · cases h
  rename_i h1 h2
  refine ⟨fun l hl => ?_, by omega, h⟩
  obtain ⟨j, hj, rfl⟩ := List.mem_iff_getElem.1 hl
  have := allR_get (f := pokAt L K) (by simpa using h2) j hj
  unfold pokAt at this
  rw [Bool.and_eq_true, ix_get hj] at this
  exact this.1

theorem normP_keys {L K : List Int} {B : Int} {c : PBC} (h : normP L K B = (c, 0)) : ∀ v ∈ (keysOf L).filter (fun v => byTo L K v L.length != 0), 0 < v ∧ v ≤ 65536 ∧ byTo L K v L.length ≠ 0 := by
  intro v hv
  obtain ⟨h1, h2⟩ := List.mem_filter.1 hv
  obtain ⟨l, hl, rfl⟩ := mem_keys.1 h1
  have := (normP_form h).1 l hl
  unfold plitB at this
  rw [decide_eq_true_eq] at this
  exact ⟨by omega, by omega, by simpa using h2⟩

theorem normP_valid {L K : List Int} {B : Int} {c : PBC} (h : normP L K B = (c, 0)) : pbV c = true :=
  normC_valid (normP_form h).2.2 ((keys_sorted L).filter _) (normP_keys h)

/-- The variables of the normal form are among those of the inequality. -/
theorem normP_vars {L K : List Int} {B : Int} {c : PBC} (h : normP L K B = (c, 0)) : ∀ x ∈ c.lits, ∃ l ∈ L, l.natAbs = x.natAbs := by
  intro x hx
  have hf := (normP_form h).2.2
  have hk := normP_keys h
  unfold normC at hf
  split at hf
  · cases hf; cases hx
  · split at hf
    · cases hf; cases hx
    · split at hf
      · cases hf
      · cases hf
        obtain ⟨v, hv, rfl⟩ := List.mem_map.1 hx
        obtain ⟨l, hl, e⟩ := mem_keys.1 (List.mem_filter.1 hv).1
        have := litOf_abs (fun v => byTo L K v L.length) (hk v hv).1
        exact ⟨l, hl, by omega⟩

/-! ### Clauses -/
def setL (L : List Int) : List Int := L.foldr insK []
theorem mem_setL {x : Int} : ∀ {L : List Int}, x ∈ setL L ↔ x ∈ L
  | [] => by simp [setL]
  | y :: L => by
    show x ∈ insK y (setL L) ↔ _
    rw [mem_insK, mem_setL, List.mem_cons]
theorem setL_sorted : ∀ L : List Int, (setL L).Pairwise (· < ·)
  | [] => by simp [setL]
  | _ :: L => insK_sorted (setL_sorted L)

def ones (n : Nat) : List Int := List.replicate n 1
theorem ones_ix {n j : Nat} (hj : j < n) : ix (ones n) j = 1 := by simp [ix, ones, List.getD_eq_getElem?_getD, hj]

def clauseP (L : List Int) : PBC × Int := normP (setL L) (ones (setL L).length) 1

theorem sumLK_ones {t : Int → Bool} {S : List Int} {n : Nat} : ∀ (i : Nat), i ≤ n → i ≤ S.length → 0 ≤ sumLK t S (ones n) i ∧ (1 ≤ sumLK t S (ones n) i ↔ ∃ j, j < i ∧ t (ix S j) = true)
  | 0, _, _ => by simp [sumLK]
  | i + 1, h, h' => by
    obtain ⟨i1, i2⟩ := sumLK_ones (t := t) (S := S) (n := n) i (by omega) (by omega)
    unfold sumLK
    rw [ones_ix (show i < n by omega)]
    cases hT : t (ix S i) with
    | true => exact ⟨by simp; omega, fun _ => ⟨i, by omega, hT⟩, fun _ => by simp; omega⟩
    | false =>
      refine ⟨by simp; omega, fun h => ?_, fun ⟨j, hj, hj2⟩ => ?_⟩
      · obtain ⟨j, hj, hj2⟩ := i2.1 (by simp at h; exact h)
        exact ⟨j, by omega, hj2⟩
      · have : j ≠ i := by rintro rfl; rw [hT] at hj2; cases hj2
        have := i2.2 ⟨j, by omega, hj2⟩
        simp; omega

theorem mem_ix_iff {S : List Int} {x : Int} : x ∈ S ↔ ∃ j, j < S.length ∧ ix S j = x := by
  constructor
  · intro h
    obtain ⟨j, hj, rfl⟩ := List.mem_iff_getElem.1 h
    exact ⟨j, hj, ix_get hj⟩
  · rintro ⟨j, hj, rfl⟩
    rw [ix_get hj]; exact List.getElem_mem hj

/-- A clause says that one of its literals holds. -/
theorem clauseP_sat {t : Int → Bool} (ht : Tot t) {L : List Int} {c : PBC} (h : clauseP L = (c, 0)) : satC t c = true ↔ ∃ l ∈ L, t l = true := by
  rw [normP_sat ht h, (sumLK_ones (t := t) (S := setL L) (n := (setL L).length) _ (Nat.le_refl _) (Nat.le_refl _)).2]
  constructor
  · rintro ⟨j, hj, h⟩
    exact ⟨_, mem_setL.1 (mem_ix_iff.2 ⟨j, hj, rfl⟩), h⟩
  · rintro ⟨l, hl, h⟩
    obtain ⟨j, hj, rfl⟩ := mem_ix_iff.1 (mem_setL.2 hl)
    exact ⟨j, hj, h⟩

/-- The coefficient of a variable in a clause. -/
theorem byTo_ones {S : List Int} (hs : S.Nodup) {v : Int} (hv : 0 < v) : ∀ (i : Nat), i ≤ S.length → byTo S (ones S.length) v i = (if v ∈ S.take i then 1 else 0) - (if -v ∈ S.take i then 1 else 0)
  | 0, _ => by simp [byTo]
  | i + 1, h => by
    have ih := byTo_ones hs hv i (by omega)
    have hi : i < S.length := by omega
    have e := List.take_succ_eq_append_getElem hi
    have hni : S[i] ∉ S.take i := by
      intro hm
      have hnd : (S.take (i + 1)).Nodup := hs.sublist (List.take_sublist _ _)
      rw [e] at hnd
      exact (List.nodup_append.1 hnd).2.2 _ hm _ (List.mem_singleton.2 rfl) rfl
    unfold byTo
    rw [ih, ones_ix hi, ix_get hi, e]
    simp only [List.mem_append, List.mem_singleton]
    by_cases e1 : S[i] = v
    · have hv1 : v ∉ S.take i := e1 ▸ hni
      have c1 : (v ∈ S.take i ∨ v = S[i]) ↔ True := ⟨fun _ => trivial, fun _ => .inr e1.symm⟩
      have c2 : (-v ∈ S.take i ∨ -v = S[i]) ↔ -v ∈ S.take i := ⟨fun h => h.resolve_right (by omega), .inl⟩
      rw [if_pos e1]
      simp only [c1, c2, if_true, if_neg hv1]
      omega
    · rw [if_neg e1]
      have hv1 : (v ∈ S.take i ∨ v = S[i]) ↔ v ∈ S.take i := ⟨fun h => h.resolve_right fun h => e1 h.symm, .inl⟩
      simp only [hv1]
      by_cases e2 : S[i] = -v
      · have hv2 : -v ∉ S.take i := e2 ▸ hni
        rw [if_pos e2]
        have c2 : (-v ∈ S.take i ∨ -v = S[i]) ↔ True := ⟨fun _ => trivial, fun _ => .inr e2.symm⟩
        simp only [c2, if_true, if_neg hv2]
        omega
      · rw [if_neg e2]
        have hv2 : (-v ∈ S.take i ∨ -v = S[i]) ↔ -v ∈ S.take i := ⟨fun h => h.resolve_right fun h => e2 h.symm, .inl⟩
        simp only [hv2]
        omega

theorem byTo_set {S : List Int} (hs : S.Nodup) {v : Int} (hv : 0 < v) : byTo S (ones S.length) v S.length = (if v ∈ S then 1 else 0) - (if -v ∈ S then 1 else 0) := by
  rw [byTo_ones hs hv _ (Nat.le_refl _), List.take_length]

/-- The literals of a clause, by variable. -/
def varsorted (S : List Int) : List Int := (keysOf S).map fun v => if v ∈ S then v else -v

/-- A literal stands there with its negation. -/
def clash (L : List Int) : Prop := ∃ v ∈ L, -v ∈ L

theorem clauseP_form {L : List Int} (hl : ∀ l ∈ L, plitB l = true) (hlen : (setL L).length ≤ 65536) :
    (clash L → clauseP L = (⟨[], [], 0⟩, 0)) ∧ (L = [] → clauseP L = (⟨[], [], 1⟩, 0)) ∧
    (¬ clash L → L ≠ [] → clauseP L = (⟨varsorted (setL L), ones (keysOf (setL L)).length, 1⟩, 0)) := by
  have hl' : ∀ l ∈ setL L, plitB l = true := fun l h => hl l (mem_setL.1 h)
  have hnd := sorted_nodup (setL_sorted L)
  have hnz : ∀ j, j < (setL L).length → ix (setL L) j ≠ 0 := fun j hj => by
    have := hl' _ (mem_ix_iff.2 ⟨j, hj, rfl⟩)
    unfold plitB at this
    rw [decide_eq_true_eq] at this
    exact this.1
  have hkp := keys_pos hnz
  -- the number of clashes
  let t : Int → Bool := fun l => if 0 < l then !decide (l ∈ setL L) else decide (-l ∈ setL L)
  have ht : Tot t := fun l h0 => by
    show (if 0 < -l then !decide (-l ∈ setL L) else decide (- -l ∈ setL L)) = !(if 0 < l then !decide (l ∈ setL L) else decide (-l ∈ setL L))
    by_cases h : 0 < l
    · rw [if_neg (by omega), if_pos h, Int.neg_neg, Bool.not_not]
    · rw [if_pos (by omega), if_neg h]
  have hsum := sum_vars (K := ones (setL L).length) ht (sorted_nodup (keys_sorted (setL L))) hkp (setL L).length fun j hj => ⟨hnz j hj, mem_keys.2 ⟨ix (setL L) j, mem_ix_iff.2 ⟨j, hj, rfl⟩, rfl⟩⟩
  have hlow : sumI (fun v => lowI (byTo (setL L) (ones (setL L).length) v (setL L).length)) (keysOf (setL L)) = sumI (fun v => if t v then byTo (setL L) (ones (setL L).length) v (setL L).length else 0) (keysOf (setL L)) := by
    refine sumI_congr fun v hv => ?_
    have h0 := hkp v hv
    show lowI _ = if (if 0 < v then !decide (v ∈ setL L) else decide (-v ∈ setL L)) then _ else (0 : Int)
    rw [byTo_set hnd h0, if_pos h0]
    by_cases h1 : v ∈ setL L <;> by_cases h2 : -v ∈ setL L <;> simp [h1, h2, lowI]
  have hnb := sumLK_ones (t := t) (S := setL L) (n := (setL L).length) _ (Nat.le_refl _) (Nat.le_refl _)
  have hcl : (∃ j, j < (setL L).length ∧ t (ix (setL L) j) = true) ↔ clash L := by
    constructor
    · rintro ⟨j, hj, h⟩
      have hm : ix (setL L) j ∈ setL L := mem_ix_iff.2 ⟨j, hj, rfl⟩
      have h' : (if 0 < ix (setL L) j then !decide (ix (setL L) j ∈ setL L) else decide (-ix (setL L) j ∈ setL L)) = true := h
      split at h'
      · simp [hm] at h'
      · exact ⟨_, mem_setL.1 hm, mem_setL.1 (by simpa using h')⟩
    · rintro ⟨v, hv, hv2⟩
      have h0 : v ≠ 0 := by have := hl v hv; unfold plitB at this; rw [decide_eq_true_eq] at this; exact this.1
      by_cases hp : 0 < v
      · obtain ⟨j, hj, e⟩ := mem_ix_iff.1 (mem_setL.2 hv2)
        refine ⟨j, hj, ?_⟩
        show (if 0 < ix (setL L) j then !decide (ix (setL L) j ∈ setL L) else decide (-ix (setL L) j ∈ setL L)) = true
        rw [e, if_neg (by omega), Int.neg_neg]
        exact decide_eq_true (mem_setL.2 hv)
      · obtain ⟨j, hj, e⟩ := mem_ix_iff.1 (mem_setL.2 hv)
        refine ⟨j, hj, ?_⟩
        show (if 0 < ix (setL L) j then !decide (ix (setL L) j ∈ setL L) else decide (-ix (setL L) j ∈ setL L)) = true
        rw [e, if_neg (by omega)]
        exact decide_eq_true (mem_setL.2 hv2)
  rw [hcl] at hnb
  have hP : clauseP L = normC (fun v => byTo (setL L) (ones (setL L).length) v (setL L).length) ((keysOf (setL L)).filter fun v => byTo (setL L) (ones (setL L).length) v (setL L).length != 0) (1 - sumLK t (setL L) (ones (setL L).length) (setL L).length) := by
    unfold clauseP normP
    rw [if_neg (by simp [ones]; omega), if_neg (by
      rw [allR_true (fun j hj => by
        unfold pokAt
        rw [hl' _ (mem_ix_iff.2 ⟨j, hj, rfl⟩), ones_ix hj]; decide)]
      simp), hsum, hlow]
    congr 1; omega
  refine ⟨fun h => ?_, fun h => ?_, fun h h2 => ?_⟩
  · rw [hP]
    unfold normC
    rw [if_pos (by have := hnb.2.2 h; omega)]
  · subst h; rfl
  · have h0 : sumLK t (setL L) (ones (setL L).length) (setL L).length = 0 := by
      have : ¬ 1 ≤ sumLK t (setL L) (ones (setL L).length) (setL L).length := fun h' => h (hnb.2.1 h')
      omega
    have hby : ∀ v ∈ keysOf (setL L), byTo (setL L) (ones (setL L).length) v (setL L).length = if v ∈ setL L then 1 else -1 := fun v hv => by
      rw [byTo_set hnd (hkp v hv)]
      obtain ⟨l, hl2, e⟩ := mem_keys.1 hv
      by_cases h1 : v ∈ setL L
      · have : -v ∉ setL L := fun h3 => h ⟨v, mem_setL.1 h1, mem_setL.1 h3⟩
        simp [h1, this]
      · have : -v ∈ setL L := by
          rcases (show l = v ∨ l = -v by omega) with rfl | rfl
          · exact absurd hl2 h1
          · exact hl2
        simp [h1, this]
    have hfil : (keysOf (setL L)).filter (fun v => byTo (setL L) (ones (setL L).length) v (setL L).length != 0) = keysOf (setL L) := by
      rw [List.filter_eq_self]
      intro v hv
      rw [hby v hv]; split <;> rfl
    have hmin : ∀ v ∈ keysOf (setL L), minI (absI (byTo (setL L) (ones (setL L).length) v (setL L).length)) 1 = 1 := fun v hv => by
      rw [hby v hv]; split <;> rfl
    rw [hP, h0, hfil]
    unfold normC
    have hne : 1 ≤ (keysOf (setL L)).length := by
      obtain ⟨l, hl3⟩ := List.exists_mem_of_ne_nil L h2
      exact List.length_pos_of_mem (mem_keys.2 ⟨l, mem_setL.2 hl3, rfl⟩)
    have hsl : sumI (fun v => minI (absI (byTo (setL L) (ones (setL L).length) v (setL L).length)) 1) (keysOf (setL L)) = (keysOf (setL L)).length := by
      rw [sumI_congr (g := fun _ => 1) hmin]
      clear hne hmin hfil hby hP
      induction keysOf (setL L) with
      | nil => rfl
      | cons x l ih => simp only [sumI, ih, List.length_cons]; omega
    rw [if_neg (by omega), Int.sub_zero, hsl, if_neg (by omega), if_neg (by omega)]
    have e1 : (keysOf (setL L)).map (litOf fun v => byTo (setL L) (ones (setL L).length) v (setL L).length) = varsorted (setL L) := by
      unfold varsorted
      refine List.map_congr_left fun v hv => ?_
      show (if byTo (setL L) (ones (setL L).length) v (setL L).length < 0 then -v else v) = _
      rw [hby v hv]
      by_cases h1 : v ∈ setL L <;> simp [h1]
    have e2 : (keysOf (setL L)).map (fun v => minI (absI (byTo (setL L) (ones (setL L).length) v (setL L).length)) 1) = ones (keysOf (setL L)).length := by
      rw [List.map_congr_left (g := fun _ => 1) hmin]; exact List.map_const'
    rw [e1, e2]

theorem clauseP_ok {L : List Int} (hl : ∀ l ∈ L, plitB l = true) (hlen : (setL L).length ≤ 65536) : (clauseP L).2 = 0 := by
  obtain ⟨h1, h2, h3⟩ := clauseP_form hl hlen
  by_cases hc : clash L
  · rw [h1 hc]
  · by_cases he : L = []
    · rw [h2 he]
    · rw [h3 hc he]

end Go.Proofs.YtoahecjdkgeamaaGreatDoor

/- the first place at which something holds (what slices.IndexFunc with a closure returns). -/
namespace Go.Proofs.YtoahecjdkgeamaaGreatDoor
open Go.RowKit

/-- The first place at which g holds; -1. -/
def IxP (n : Nat) (g : Nat → Bool) (r : Int) : Prop := (r = -1 ∧ ∀ j, j < n → g j = false) ∨ ∃ k : Nat, k < n ∧ r = k ∧ g k = true ∧ ∀ j, j < k → g j = false

def IxR (n : Nat) (g : Nat → Bool) (w : World) (i : Value) (wx : World) : Prop := ∃ k : Nat, k ≤ n ∧ i = .int .i64 k ∧ (∀ j, j < k → g j = false) ∧ Below w.heap.size w wx

theorem IxP.any {n : Nat} {g : Nat → Bool} {r : Int} (h : IxP n g r) : decide (0 ≤ r) = anyR n g := by
  rcases h with ⟨rfl, h⟩ | ⟨k, h1, rfl, h2, h3⟩
  · rw [anyR_false h]; rfl
  · rw [anyR_true k h1 h2, decide_eq_true (by omega)]

end Go.Proofs.YtoahecjdkgeamaaGreatDoor

/- ostlerlaw26.Few. -/
namespace Go.Proofs.YtoahecjdkgeamaaGreatDoor
open Go.RowKit

def fewAt (r : GR) : Bool := decide (r.head.length ≤ 10) && decide (r.body.length ≤ 20) && decide (r.w.length ≤ 20)
def fewB (p : GP) : Bool := decide (p.n ≤ 10) && decide (p.names.length ≤ 10) && decide (p.rules.length ≤ 12) && allR p.rules.length (fun i => fewAt (ixR p.rules i))

def FewRel (p : GP) (w : World) (i : Value) (wx : World) : Prop := ∃ k : Nat, k ≤ p.rules.length ∧ i = .int .i64 k ∧ (∀ j, j < k → fewAt (ixR p.rules j) = true) ∧ Below w.heap.size w wx

set_option maxHeartbeats 1000000 in
set_option maxRecDepth 100000 in
theorem few_any (v : Value) (p : GP) (w : World) (h : ProgIs w v p) :
    Calls Tryz.prog 9 #[v] w fun e w' => e = .returned (.bool (fewB p)) ∧ Below w.heap.size w w' := by
  obtain ⟨vn, vs, vr, vm, rfl, hn, hnames, hshown, hrules, hmin⟩ := h
  obtain ⟨a0, c0, rfl, -, hl0, -⟩ := hnames.form
  obtain ⟨a1, c1, rfl, -, hl1, -, hcell⟩ := hrules.form
  unfold InI at hn
  have hal := bal (Below.refl w.heap.size w) (.cells #[.int .i64 p.n, .slice a0 p.names.length c0, vs, .slice a1 p.rules.length c1, vm] 27)
  clear hnames hshown hrules hmin
  by_cases h1 : p.n ≤ 10
  · by_cases h2 : p.names.length ≤ 10
    · by_cases h3 : p.rules.length ≤ 12
      · have HF : Hid (fewB p = allR p.rules.length (fun i => fewAt (ixR p.rules i))) := Lib.hid (by simp [fewB, h1, h2, h3])
        go_enter Tryz.func9, Tryz.ntmps9
        go_wp2
        have hbk : Blk (w.alloc (.cells #[.int .i64 p.n, .slice a0 p.names.length c0, vs, .slice a1 p.rules.length c1, vm] 27)) w.heap.size _ _ := Blk.new w [.int .i64 p.n, .slice a0 p.names.length c0, vs, .slice a1 p.rules.length c1, vm] _
        generalize w.alloc (.cells #[.int .i64 p.n, .slice a0 p.names.length c0, vs, .slice a1 p.rules.length c1, vm] 27) = W at hal hbk ⊢
        go_loopw [23] (fun i wx => FewRel p w i wx) (fun i _ => p.rules.length - (intOf i).toNat)
        case atStart => exact ⟨0, by omega, rfl, fun j hj => absurd hj (Nat.not_lt_zero _), hal⟩
        case round =>
          obtain ⟨k, hk, rfl, hall, hb⟩ := hrel
          have HA := Lib.hid hall
          clear hall
          by_cases hlt : k < p.rules.length
          · obtain ⟨b, off, rfl, hbl, hc⟩ := hcell (by omega)
            obtain ⟨vh, vb, vw, ⟨r0, r1, r2, r3, r4, r5⟩, hsl⟩ := hc k hlt
            have HR : Hid (fewAt (ixR p.rules k) = (decide ((ixR p.rules k).head.length ≤ 10) && decide ((ixR p.rules k).body.length ≤ 20) && decide ((ixR p.rules k).w.length ≤ 20))) := Lib.hid rfl
            have HB : Hid (fewAt (ixR p.rules k) = false → fewB p = false) := Lib.hid (fun h => by rw [HF.out]; exact allR_false k hlt h)
            have HG : Hid (fewAt (ixR p.rules k) = true → ∀ j, j < k + 1 → fewAt (ixR p.rules j) = true) := Lib.hid (fun h => lt_succ_all HA.out h)
            generalize ixR p.rules k = r at *
            obtain ⟨x1, y1, rfl, -, g1, -, -⟩ := hsl.head.form
            obtain ⟨x2, y2, rfl, -, g2, -, -⟩ := hsl.body.form
            obtain ⟨x3, y3, rfl, -, g3, -, -⟩ := hsl.wts.form
            have kk := bcell hb b
            have q0 := (kk _ hbl).trans r0
            have q1 := (kk _ hbl).trans r1
            have q2 := (kk _ hbl).trans r2
            have q3 := (kk _ hbl).trans r3
            have q4 := (kk _ hbl).trans r4
            have q5 := (kk _ hbl).trans r5
            clear kk r0 r1 r2 r3 r4 r5 hc hcell hsl
            by_cases e1 : r.head.length ≤ 10
            · by_cases e2 : r.body.length ≤ 20
              · by_cases e3 : r.w.length ≤ 20
                · have HN := Lib.hid (HG.out (by rw [HR.out]; simp [e1, e2, e3]))
                  go_wp2
                  first
                    | (go_roundw
                       case rel => (exact ⟨k + 1, by omega, by go_num, HN.out, bal hb _⟩)
                       case measure => (simp [intOf]; omega))
                    | (refine ⟨?_, ?_⟩
                       · (exact ⟨k + 1, by omega, by go_num, HN.out, bal hb _⟩)
                       · (simp [intOf]; omega))
                · have HN := Lib.hid (HB.out (by rw [HR.out]; simp [e3]))
                  go_wp2
                  go_ret
                  exact ⟨ret_bool HN.out.symm, bal hb _⟩
              · have HN := Lib.hid (HB.out (by rw [HR.out]; simp [e2]))
                go_wp2
                go_ret
                exact ⟨ret_bool HN.out.symm, bal hb _⟩
            · have HN := Lib.hid (HB.out (by rw [HR.out]; simp [e1]))
              go_wp2
              go_ret
              exact ⟨ret_bool HN.out.symm, bal hb _⟩
          · have HN : Hid (fewB p = true) := Lib.hid (by rw [HF.out]; exact allR_true (fun j hj => HA.out j (by omega)))
            go_wp2
            go_ret
            exact ⟨ret_bool HN.out.symm, hb⟩
      · have HF : Hid (fewB p = false) := Lib.hid (by simp [fewB, h3])
        go_enter Tryz.func9, Tryz.ntmps9
        go_wp2
        go_ret
        exact ⟨ret_bool HF.out.symm, hal⟩
    · have HF : Hid (fewB p = false) := Lib.hid (by simp [fewB, h2])
      go_enter Tryz.func9, Tryz.ntmps9
      go_wp2
      go_ret
      exact ⟨ret_bool HF.out.symm, hal⟩
  · have HF : Hid (fewB p = false) := Lib.hid (by simp [fewB, h1])
    go_enter Tryz.func9, Tryz.ntmps9
    go_wp2
    go_ret
    exact ⟨ret_bool HF.out.symm, hal⟩

end Go.Proofs.YtoahecjdkgeamaaGreatDoor

/- loops: the small functions: slices.Contains, isSet, value, internal. -/
namespace Go.Proofs.YtoahecjdkgeamaaGreatDoor
open Go.RowKit


theorem mem_ix {l : List Int} {x : Int} : x ∈ l ↔ ∃ k, k < l.length ∧ ix l k = x := by
  constructor
  · intro h
    obtain ⟨k, hk, e⟩ := List.mem_iff_getElem.1 h
    exact ⟨k, hk, by simp [ix, List.getD_eq_getElem?_getD, List.getElem?_eq_getElem hk, e]⟩
  · rintro ⟨k, hk, rfl⟩; exact ix_mem hk

set_option maxHeartbeats 1000000 in
theorem index_any (v : Value) (l : List Int) (x : Int) (w : World) (h : Ints w v l) :
    Calls Tryz.prog 83 #[v, .int .i64 x] w fun e w' => ∃ r, e = .returned (.int .i64 r) ∧ IxP l.length (fun j => decide (ix l j = x)) r ∧ w = w' := by
  obtain ⟨a1, c1, rfl, -, hl1, -, hcell⟩ := h.form
  clear h
  go_enter Tryz.func83, Tryz.ntmps83
  go_wp2
  go_loop [8] (fun i => ∃ k : Nat, k ≤ l.length ∧ i = .int .i64 k ∧ Hid (∀ j, j < k → decide (ix l j = x) = false)) (fun i => l.length - (intOf i).toNat)
  case atStart => exact ⟨0, by omega, rfl, Lib.hid (fun j hj => absurd hj (Nat.not_lt_zero _))⟩
  case round =>
    obtain ⟨k, hk, rfl, HA⟩ := hrel
    by_cases hlt : k < l.length
    · obtain ⟨b, off, rfl, hbl, hc⟩ := hcell (by omega)
      have hk1 := hc k hlt
      clear hc hcell
      by_cases g1 : ix l k = x
      · have HK : Hid (ix l k = x) := Lib.hid g1
        have g2 : (x == ix l k) = true := by simp [g1]
        clear g1
        go_wp2
        go_ret
        exact ⟨_, rfl, .inr ⟨k, hlt, rfl, decide_eq_true HK.out, HA.out⟩, rfl⟩
      · have HN := Lib.hid (lt_succ_all HA.out (decide_eq_false g1))
        have g2 : (x == ix l k) = false := by simp; exact fun e => g1 e.symm
        clear g1
        go_wp2
        first
          | (go_round
             case rel => (exact ⟨k + 1, by omega, by go_num, HN⟩)
             case measure => (simp [intOf]; omega))
          | (refine ⟨?_, ?_⟩
             · (exact ⟨k + 1, by omega, by go_num, HN⟩)
             · (simp [intOf]; omega))
    · have HN : Hid (∀ j, j < l.length → decide (ix l j = x) = false) := Lib.hid (fun j hj => HA.out j (by omega))
      go_wp2
      go_ret
      exact ⟨_, rfl, .inl ⟨rfl, HN.out⟩, rfl⟩

theorem anyR_mem (l : List Int) (x : Int) : anyR l.length (fun j => decide (ix l j = x)) = decide (x ∈ l) := by
  by_cases h : x ∈ l
  · obtain ⟨k, hk, e⟩ := mem_ix.1 h
    rw [decide_eq_true h, anyR_true k hk (decide_eq_true e)]
  · rw [decide_eq_false h, anyR_false (fun j hj => decide_eq_false (fun e => h (mem_ix.2 ⟨j, hj, e⟩)))]

theorem contains_any (v : Value) (l : List Int) (x : Int) (w : World) (h : Ints w v l) :
    Calls Tryz.prog 58 #[v, .int .i64 x] w fun e w' => e = .returned (.bool (decide (x ∈ l))) ∧ w = w' := by
  have HI := Lib.hid (index_any v l x w h)
  obtain ⟨a1, c1, rfl, -⟩ := h.form
  clear h
  go_enter Tryz.func58, Tryz.ntmps58
  go_wp2_with (go_at_call 83; refine (HI.out).mono ?_; rintro e w1 ⟨r, rfl, hr, rfl⟩; have HR := Lib.hid hr; clear hr)
  go_ret
  exact ⟨ret_bool (by rw [HR.out.any, anyR_mem]), rfl⟩

/-- A set of atoms: increasing, within 1 .. n. -/
def setTo (n : Int) (S : List Int) (k : Nat) : Bool := decide (1 ≤ ix S k ∧ ix S k ≤ n) && (k == 0 || decide (ix S (k - 1) < ix S k))
end Go.Proofs.YtoahecjdkgeamaaGreatDoor

/- The completion of a program (plain): its constraints, and what they say together. -/
namespace Go.Proofs.YtoahecjdkgeamaaGreatDoor

def negL (l : List Int) : List Int := l.map fun x => -x
def restI (r : GR) : Int := 1 - r.bound + sumTo r.w r.w.length
def compH (r : GR) (b : Int) : List PBC :=
  if r.sum then [(normP (r.body ++ [-b]) (r.w ++ [r.bound]) r.bound).1, (normP (negL r.body ++ [b]) (r.w ++ [max (restI r) 0]) (restI r)).1]
  else (r.body.map fun l => (clauseP [-b, l]).1) ++ [(clauseP (negL r.body ++ [b])).1]
def compR (r : GR) (b : Int) : List PBC := compH r b ++ (if r.choice then [] else [(clauseP (r.head ++ [-b])).1])
/-- The body variables of the first k rules with the atom in the head. -/
def supAt' (p : GP) (a : Int) : Nat → List Int
  | 0 => []
  | k + 1 => supAt' p a k ++ (if a ∈ (ixR p.rules k).head then [p.n + 1 + k] else [])
def atomC (p : GP) (a : Int) : PBC := (clauseP (supAt' p a p.rules.length ++ [-a])).1
def compTo (p : GP) : Nat → List PBC
  | 0 => []
  | k + 1 => compTo p k ++ compR (ixR p.rules k) (p.n + 1 + k)
def atomTo (p : GP) : Nat → List PBC
  | 0 => []
  | k + 1 => atomTo p k ++ [atomC p ((k : Int) + 1)]
def compL (p : GP) : List PBC := compTo p p.rules.length ++ atomTo p p.n.toNat

/-! ### Lists -/
theorem ix_lft {l m : List Int} {j : Nat} (h : j < l.length) : ix (l ++ m) j = ix l j := by
  unfold ix
  rw [List.getD_eq_getElem?_getD, List.getD_eq_getElem?_getD, List.getElem?_append_left h]
theorem ix_end {l : List Int} {x : Int} : ix (l ++ [x]) l.length = x := by
  unfold ix
  rw [List.getD_eq_getElem?_getD, List.getElem?_append_right (Nat.le_refl _)]
  simp
theorem ix_neg {l : List Int} {j : Nat} (h : j < l.length) : ix (negL l) j = -(ix l j) := by
  unfold ix negL
  simp [List.getD_eq_getElem?_getD, h]
theorem negL_len (l : List Int) : (negL l).length = l.length := by simp [negL]

theorem sumLK_congr {t u : Int → Bool} {L K L' K' : List Int} : ∀ (i : Nat), (∀ j, j < i → t (ix L j) = u (ix L' j) ∧ ix K j = ix K' j) → sumLK t L K i = sumLK u L' K' i
  | 0, _ => rfl
  | i + 1, h => by
    obtain ⟨h1, h2⟩ := h i (by omega)
    simp only [sumLK, sumLK_congr i fun j hj => h j (by omega), h1, h2]

theorem sumLK_app {t : Int → Bool} {L K : List Int} {x y : Int} (h : L.length = K.length) : sumLK t (L ++ [x]) (K ++ [y]) (L ++ [x]).length = sumLK t L K L.length + if t x then y else 0 := by
  rw [List.length_append, List.length_singleton]
  show sumLK t (L ++ [x]) (K ++ [y]) L.length + _ = _
  rw [sumLK_congr (u := t) (L' := L) (K' := K) L.length fun j hj => ⟨by rw [ix_lft hj], ix_lft (by omega)⟩, ix_end, h, ix_end]

theorem sumLK_nonneg {t : Int → Bool} {L K : List Int} : ∀ (i : Nat), (∀ j, j < i → 0 ≤ ix K j) → 0 ≤ sumLK t L K i
  | 0, _ => Int.le_refl _
  | i + 1, h => by
    have h1 := sumLK_nonneg (t := t) (L := L) i fun j hj => h j (by omega)
    have h2 := h i (by omega)
    simp only [sumLK]
    split <;> omega

theorem sumLK_le {t : Int → Bool} {L K : List Int} : ∀ (i : Nat), (∀ j, j < i → 0 ≤ ix K j) → sumLK t L K i ≤ sumTo K i
  | 0, _ => Int.le_refl _
  | i + 1, h => by
    have h1 := sumLK_le (t := t) (L := L) i fun j hj => h j (by omega)
    have h2 := h i (by omega)
    simp only [sumLK, sumTo]
    split <;> omega

/-- What is true and what is not, together. -/
theorem sumLK_neg {t : Int → Bool} (ht : Tot t) {L K : List Int} : ∀ (i : Nat), i ≤ L.length → (∀ j, j < i → ix L j ≠ 0) → sumLK t (negL L) K i = sumTo K i - sumLK t L K i
  | 0, _, _ => by simp [sumLK, sumTo]
  | i + 1, hi, h => by
    have ih := sumLK_neg ht (K := K) i (by omega) fun j hj => h j (by omega)
    simp only [sumLK, sumTo]
    rw [ih, ix_neg (by omega), ht _ (h i (by omega))]
    cases t (ix L i) <;> simp <;> omega

/-! ### The normal form has no error -/
theorem normP_ok {L K : List Int} {B : Int} (hl : L.length = K.length) (hlen : L.length ≤ 65536) (hB : -1099511627776 ≤ B ∧ B ≤ 16777216) (hL : ∀ l ∈ L, plitB l = true) (hK : ∀ j, j < L.length → 0 ≤ ix K j ∧ ix K j ≤ 16777216) :
    normP L K B = ((normP L K B).1, 0) := by
  have hp : allR L.length (pokAt L K) = true := allR_true fun j hj => by
    unfold pokAt
    rw [hL _ (ix_mem hj), decide_eq_true (by have := hK j hj; omega)]
    rfl
  have hne : ∀ j, j < L.length → ix L j ≠ 0 := fun j hj => by
    have := hL _ (ix_mem hj)
    unfold plitB at this
    rw [decide_eq_true_eq] at this
    exact this.1
  have hbd : B - negTo L K L.length - sumI (fun v => lowI (byTo L K v L.length)) (keysOf L) ≤ 16777216 := by
    obtain ⟨t, ht⟩ : ∃ t : Int → Bool, t = fun l => if 0 < l then decide (byTo L K l L.length < 0) else !decide (byTo L K (-l) L.length < 0) := ⟨_, rfl⟩
    have htot : Tot t := fun l hl => by
      rw [ht]
      dsimp only
      rcases Int.lt_or_gt_of_ne hl with h | h
      · rw [if_pos (by omega), if_neg (by omega), Bool.not_not]
      · rw [if_neg (by omega), if_pos h, Int.neg_neg]
    have h1 := sum_vars htot (L := L) (K := K) (sorted_nodup (keys_sorted L)) (keys_pos hne) L.length fun j hj => ⟨hne j hj, mem_keys.2 ⟨_, ix_mem hj, rfl⟩⟩
    have h2 := sumLK_nonneg (t := t) (L := L) (K := K) L.length fun j hj => (hK j hj).1
    have h3 : sumI (fun v => if t v then byTo L K v L.length else 0) (keysOf L) = sumI (fun v => lowI (byTo L K v L.length)) (keysOf L) := sumI_congr fun v hv => by
      have hv := keys_pos hne v hv
      have e : t v = decide (byTo L K v L.length < 0) := by rw [ht]; exact if_pos hv
      rw [e]
      unfold lowI
      by_cases h : byTo L K v L.length < 0 <;> simp [h]
    rw [h3] at h1
    omega
  have h0 : (normP L K B).2 = 0 := by
    unfold normP
    rw [if_neg (by omega), if_neg (by rw [hp]; simp)]
    generalize B - negTo L K L.length - sumI (fun v => lowI (byTo L K v L.length)) (keysOf L) = bd at *
    unfold normC
    split
    · rfl
    split
    · rfl
    · rw [if_neg (by omega)]
  exact Prod.ext rfl h0

/-! ### A rule -/
/-- The body is true. -/
def bodyTT (t : Int → Bool) (r : GR) : Bool := if r.sum then decide (r.bound ≤ sumLK t r.body r.w r.body.length) else allR r.body.length (fun j => t (ix r.body j))

/-- A rule as valid programs have it. -/
structure RuleV (r : GR) (n : Int) : Prop where
  rng : 0 ≤ n ∧ n ≤ 4000
  head : ∀ x ∈ r.head, 1 ≤ x ∧ x ≤ n
  body : ∀ x ∈ r.body, x ≠ 0 ∧ -n ≤ x ∧ x ≤ n
  len : r.body.length ≤ 8000 ∧ r.head.length ≤ 8000
  sum : r.sum = true → r.body.length = r.w.length ∧ (∀ j, j < r.w.length → 1 ≤ ix r.w j) ∧ sumTo r.w r.w.length ≤ 1048576 ∧ 0 ≤ r.bound ∧ r.bound ≤ 1048576

theorem sumTo_ge {K : List Int} (h : ∀ j, j < K.length → 1 ≤ ix K j) : ∀ (i : Nat), i ≤ K.length → 0 ≤ sumTo K i ∧ ∀ j, j < i → ix K j ≤ sumTo K i
  | 0, _ => ⟨Int.le_refl _, fun j hj => absurd hj (Nat.not_lt_zero _)⟩
  | i + 1, hi => by
    obtain ⟨h1, h2⟩ := sumTo_ge h i (by omega)
    have h3 := h i (by omega)
    simp only [sumTo]
    refine ⟨by omega, fun j hj => ?_⟩
    by_cases e : j = i
    · subst e; omega
    · have := h2 j (by omega); omega

section
variable {r : GR} {n b : Int}

theorem plit_of {x : Int} (h0 : x ≠ 0) (h1 : -65536 ≤ x ∧ x ≤ 65536) : plitB x = true := by
  unfold plitB
  rw [decide_eq_true_eq]
  exact ⟨h0, h1⟩

/-- A body variable. -/
def BVar (n b : Int) : Prop := n < b ∧ b ≤ 60000

theorem RuleV.plits (h : RuleV r n) (hb : BVar n b) : (∀ x ∈ r.body ++ [-b], plitB x = true) ∧ (∀ x ∈ negL r.body ++ [b], plitB x = true) ∧ (∀ x ∈ r.head ++ [-b], plitB x = true) ∧ ∀ x ∈ r.body, ∀ y ∈ [-b, x], plitB y = true := by
  have hn := h.rng
  obtain ⟨hb1, hb2⟩ := hb
  refine ⟨fun x hx => ?_, fun x hx => ?_, fun x hx => ?_, fun x hx y hy => ?_⟩
  · rcases List.mem_append.1 hx with hx | hx
    · have := h.body x hx; exact plit_of this.1 (by omega)
    · obtain rfl : x = -b := by simpa using hx
      exact plit_of (by omega) (by omega)
  · rcases List.mem_append.1 hx with hx | hx
    · unfold negL at hx
      obtain ⟨y, hy, rfl⟩ := List.mem_map.1 hx
      have := h.body y hy; exact plit_of (by omega) (by omega)
    · obtain rfl : x = b := by simpa using hx
      exact plit_of (by omega) (by omega)
  · rcases List.mem_append.1 hx with hx | hx
    · have := h.head x hx; exact plit_of (by omega) (by omega)
    · obtain rfl : x = -b := by simpa using hx
      exact plit_of (by omega) (by omega)
  · rcases List.mem_cons.1 hy with rfl | hy
    · exact plit_of (by omega) (by omega)
    · obtain rfl : y = x := by simpa using hy
      have := h.body y hx; exact plit_of this.1 (by omega)

theorem clauseP_fine {L : List Int} (hl : ∀ l ∈ L, plitB l = true) (hlen : L.length ≤ 65536) : clauseP L = ((clauseP L).1, 0) := Prod.ext rfl (clauseP_ok hl (by
  have : (setL L).length ≤ L.length := by
    clear hl hlen
    induction L with
    | nil => simp [setL]
    | cons x l ih =>
      have h2 : ∀ (v : Int) (l : List Int), (insK v l).length ≤ l.length + 1 := fun v l => by
        induction l with
        | nil => simp [insK]
        | cons y l ih =>
          unfold insK
          split
          · simp
          · split
            · simp
            · simp only [List.length_cons]; omega
      have := h2 x (setL l)
      show (insK x (setL l)).length ≤ _
      simp only [List.length_cons]
      omega
  omega))

theorem clause_sat {t : Int → Bool} (ht : Tot t) {L : List Int} (hl : ∀ l ∈ L, plitB l = true) (hlen : L.length ≤ 65536) : satC t (clauseP L).1 = true ↔ ∃ l ∈ L, t l = true := clauseP_sat ht (clauseP_fine hl hlen)

theorem RuleV.sum1 (h : RuleV r n) (hb : BVar n b) (hs : r.sum = true) : normP (r.body ++ [-b]) (r.w ++ [r.bound]) r.bound = ((normP (r.body ++ [-b]) (r.w ++ [r.bound]) r.bound).1, 0) := by
  obtain ⟨h1, h2, h3, h4, h5⟩ := h.sum hs
  have hl := h.len
  refine normP_ok (by simp [h1]) (by simp; omega) (by omega) (h.plits hb).1 fun j hj => ?_
  simp only [List.length_append, List.length_singleton] at hj
  by_cases e : j < r.w.length
  · rw [ix_lft e]
    have := h2 j e
    have := (sumTo_ge h2 r.w.length (Nat.le_refl _)).2 j e
    omega
  · obtain rfl : j = r.w.length := by omega
    rw [ix_end]
    omega

theorem RuleV.sum2 (h : RuleV r n) (hb : BVar n b) (hs : r.sum = true) : normP (negL r.body ++ [b]) (r.w ++ [max (restI r) 0]) (restI r) = ((normP (negL r.body ++ [b]) (r.w ++ [max (restI r) 0]) (restI r)).1, 0) := by
  obtain ⟨h1, h2, h3, h4, h5⟩ := h.sum hs
  have hl := h.len
  have h0 := (sumTo_ge h2 r.w.length (Nat.le_refl _)).1
  have hr : -1048576 ≤ restI r ∧ restI r ≤ 1048577 := by unfold restI; omega
  refine normP_ok (by simp [h1, negL_len]) (by simp [negL_len]; omega) (by omega) (h.plits hb).2.1 fun j hj => ?_
  simp only [List.length_append, List.length_singleton, negL_len] at hj
  by_cases e : j < r.w.length
  · rw [ix_lft e]
    have := h2 j e
    have := (sumTo_ge h2 r.w.length (Nat.le_refl _)).2 j e
    omega
  · obtain rfl : j = r.w.length := by omega
    rw [ix_end]
    omega

/-- The constraints of a rule: the body variable is the body; a head is met. -/
theorem RuleV.compH_sat (h : RuleV r n) (hb : BVar n b) {t : Int → Bool} (ht : Tot t) : (∀ c ∈ compH r b, satC t c = true) ↔ t b = bodyTT t r := by
  have hn := h.rng
  have hb0 : b ≠ 0 := by have := hb.1; omega
  have hne : ∀ j, j < r.body.length → ix r.body j ≠ 0 := fun j hj => (h.body _ (ix_mem hj)).1
  have hl := h.len
  unfold compH bodyTT
  cases hs : r.sum with
  | true =>
    obtain ⟨h1, h2, h3, h4, h5⟩ := h.sum hs
    have e1 := normP_sat ht (h.sum1 hb hs)
    have e2 := normP_sat ht (h.sum2 hb hs)
    rw [sumLK_app (by omega), ht b hb0] at e1
    rw [sumLK_app (by rw [negL_len]; omega), negL_len, sumLK_neg ht _ (Nat.le_refl _) hne] at e2
    have h6 := sumLK_nonneg (t := t) (L := r.body) (K := r.w) r.body.length fun j hj => by have := h2 j (by omega); omega
    have h7 := sumLK_le (t := t) (L := r.body) (K := r.w) r.body.length fun j hj => by have := h2 j (by omega); omega
    have hr : restI r = 1 - r.bound + sumTo r.w r.body.length := by unfold restI; rw [h1]
    rw [hr] at e2
    simp only [if_true, List.mem_cons, List.not_mem_nil, or_false, forall_eq_or_imp, forall_eq, e1, hr, e2]
    cases t b <;> simp <;> omega
  | false =>
    simp only [Bool.false_eq_true, if_false, List.mem_append, List.mem_map, List.mem_singleton]
    have e2 := clause_sat ht (h.plits hb).2.1 (by simp [negL_len]; omega)
    have e1 := fun l hl => clause_sat ht ((h.plits hb).2.2.2 l hl) (by simp)
    constructor
    · intro hc
      have c2 := e2.1 (hc _ (.inr rfl))
      have c1 := fun l hl => (e1 l hl).1 (hc _ (.inl ⟨l, hl, rfl⟩))
      cases hbt : t b with
      | true =>
        refine (allR_true fun j hj => ?_).symm
        obtain ⟨x, hx, e⟩ := c1 _ (ix_mem hj)
        rcases List.mem_cons.1 hx with rfl | hx
        · rw [ht b hb0, hbt] at e; cases e
        · obtain rfl : x = ix r.body j := by simpa using hx
          exact e
      | false =>
        obtain ⟨x, hx, e⟩ := c2
        rcases List.mem_append.1 hx with hx | hx
        · unfold negL at hx
          obtain ⟨y, hy, rfl⟩ := List.mem_map.1 hx
          rw [ht y (h.body y hy).1] at e
          obtain ⟨j, hj, rfl⟩ := mem_ix.1 hy
          refine (allR_false j hj ?_).symm
          simpa using e
        · obtain rfl : x = b := by simpa using hx
          rw [hbt] at e; cases e
    · rintro hbt c (⟨l, hl, rfl⟩ | rfl)
      · refine (e1 l hl).2 ?_
        cases hbb : t b with
        | true =>
          rw [hbb] at hbt
          obtain ⟨j, hj, rfl⟩ := mem_ix.1 hl
          exact ⟨_, by simp, allR_get hbt.symm j hj⟩
        | false => exact ⟨-b, by simp, by rw [ht b hb0, hbb]; rfl⟩
      · refine e2.2 ?_
        cases hbb : t b with
        | true => exact ⟨b, by simp, hbb⟩
        | false =>
          rw [hbb] at hbt
          have : ∃ j, j < r.body.length ∧ t (ix r.body j) = false := by
            apply Classical.byContradiction
            intro hno
            rw [allR_true fun j hj => by
              cases e : t (ix r.body j) with
              | true => rfl
              | false => exact (hno ⟨j, hj, e⟩).elim] at hbt
            cases hbt
          obtain ⟨j, hj, e⟩ := this
          exact ⟨-(ix r.body j), List.mem_append_left _ (List.mem_map.2 ⟨_, ix_mem hj, rfl⟩), by rw [ht _ (hne j hj), e]; rfl⟩

theorem RuleV.comp_sat (h : RuleV r n) (hb : BVar n b) {t : Int → Bool} (ht : Tot t) : (∀ c ∈ compR r b, satC t c = true) ↔ t b = bodyTT t r ∧ (r.choice = false → t b = true → ∃ x ∈ r.head, t x = true) := by
  have hn := h.rng
  have hb0 : b ≠ 0 := by have := hb.1; omega
  have e3 := clause_sat ht (h.plits hb).2.2.1 (by have := h.len; simp; omega)
  have e4 : (∃ l ∈ r.head ++ [-b], t l = true) ↔ (t b = true → ∃ x ∈ r.head, t x = true) := by
    constructor
    · rintro ⟨l, hl, e⟩ hbt
      rcases List.mem_append.1 hl with hl | hl
      · exact ⟨l, hl, e⟩
      · obtain rfl : l = -b := by simpa using hl
        rw [ht b hb0, hbt] at e; cases e
    · intro hi
      cases hbt : t b with
      | true => obtain ⟨x, hx, e⟩ := hi hbt; exact ⟨x, List.mem_append_left _ hx, e⟩
      | false => exact ⟨-b, by simp, by rw [ht b hb0, hbt]; rfl⟩
  unfold compR
  simp only [List.mem_append]
  constructor
  · intro hc
    refine ⟨(h.compH_sat hb ht).1 fun c hm => hc c (.inl hm), fun hch => e4.1 (e3.1 (hc _ (.inr (by rw [hch]; simp))))⟩
  · rintro ⟨h1, h2⟩ c (hm | hm)
    · exact (h.compH_sat hb ht).2 h1 c hm
    · cases hch : r.choice with
      | true => rw [hch] at hm; simp at hm
      | false =>
        rw [hch] at hm
        obtain rfl : c = _ := by simpa using hm
        exact e3.2 (e4.2 (h2 hch))
end

/-! ### The program -/
theorem mem_compTo {p : GP} {c : PBC} : ∀ k, c ∈ compTo p k ↔ ∃ i, i < k ∧ c ∈ compR (ixR p.rules i) (p.n + 1 + i)
  | 0 => by simp [compTo]
  | k + 1 => by
    rw [compTo, List.mem_append, mem_compTo k]
    constructor
    · rintro (⟨i, hi, h⟩ | h)
      · exact ⟨i, by omega, h⟩
      · exact ⟨k, by omega, h⟩
    · rintro ⟨i, hi, h⟩
      by_cases e : i = k
      · subst e; exact .inr h
      · exact .inl ⟨i, by omega, h⟩

theorem mem_atomTo {p : GP} {c : PBC} : ∀ k, c ∈ atomTo p k ↔ ∃ i, i < k ∧ c = atomC p ((i : Int) + 1)
  | 0 => by simp [atomTo]
  | k + 1 => by
    rw [atomTo, List.mem_append, mem_atomTo k]
    constructor
    · rintro (⟨i, hi, h⟩ | h)
      · exact ⟨i, by omega, h⟩
      · exact ⟨k, by omega, by simpa using h⟩
    · rintro ⟨i, hi, h⟩
      by_cases e : i = k
      · subst e; exact .inr (by simpa using h)
      · exact .inl ⟨i, by omega, h⟩

theorem mem_supAt {p : GP} {a x : Int} : ∀ k, x ∈ supAt' p a k ↔ ∃ i : Nat, i < k ∧ a ∈ (ixR p.rules i).head ∧ x = p.n + 1 + i
  | 0 => by simp [supAt']
  | k + 1 => by
    rw [supAt', List.mem_append, mem_supAt k]
    constructor
    · rintro (⟨i, hi, h⟩ | h)
      · exact ⟨i, by omega, h⟩
      · split at h
        · rename_i hm; exact ⟨k, by omega, hm, by simpa using h⟩
        · simp at h
    · rintro ⟨i, hi, h⟩
      by_cases e : i = k
      · subst e; exact .inr (by rw [if_pos h.1]; simpa using h.2)
      · exact .inl ⟨i, by omega, h⟩

theorem supAt_len (p : GP) (a : Int) : ∀ k, (supAt' p a k).length ≤ k
  | 0 => by simp [supAt']
  | k + 1 => by
    have := supAt_len p a k
    rw [supAt', List.length_append]
    split <;> simp <;> omega

structure CompV (p : GP) : Prop where
  n : 0 ≤ p.n ∧ p.n ≤ 4000
  rules : p.rules.length ≤ 40000
  rule : ∀ i, i < p.rules.length → RuleV (ixR p.rules i) p.n

theorem CompV.bvar {p : GP} (h : CompV p) {i : Nat} (hi : i < p.rules.length) : BVar p.n (p.n + 1 + i) := by
  have h1 := h.n
  have h2 := h.rules
  exact ⟨by omega, by omega⟩

theorem CompV.atom_lits {p : GP} (h : CompV p) {a : Int} (ha : 1 ≤ a ∧ a ≤ p.n) : (∀ x ∈ supAt' p a p.rules.length ++ [-a], plitB x = true) ∧ (supAt' p a p.rules.length ++ [-a]).length ≤ 65536 := by
  have h1 := h.n
  have h2 := h.rules
  have h3 := supAt_len p a p.rules.length
  refine ⟨fun x hx => ?_, by simp; omega⟩
  rcases List.mem_append.1 hx with hx | hx
  · obtain ⟨i, hi, -, rfl⟩ := (mem_supAt _).1 hx
    exact plit_of (by omega) (by omega)
  · obtain rfl : x = -a := by simpa using hx
    exact plit_of (by omega) (by omega)

/-- What the completion says of a truth of its variables. -/
structure CompT (p : GP) (t : Int → Bool) : Prop where
  body : ∀ i : Nat, i < p.rules.length → t (p.n + 1 + i) = bodyTT t (ixR p.rules i)
  head : ∀ i : Nat, i < p.rules.length → (ixR p.rules i).choice = false → t (p.n + 1 + i) = true → ∃ x ∈ (ixR p.rules i).head, t x = true
  supp : ∀ a : Int, 1 ≤ a → a ≤ p.n → t a = true → ∃ i : Nat, i < p.rules.length ∧ a ∈ (ixR p.rules i).head ∧ t (p.n + 1 + i) = true

theorem CompV.sat {p : GP} (h : CompV p) {t : Int → Bool} (ht : Tot t) : (∀ c ∈ compL p, satC t c = true) ↔ CompT p t := by
  have hat : ∀ a : Int, 1 ≤ a → a ≤ p.n → (satC t (atomC p a) = true ↔ (t a = true → ∃ i : Nat, i < p.rules.length ∧ a ∈ (ixR p.rules i).head ∧ t (p.n + 1 + i) = true)) := fun a h1 h2 => by
    obtain ⟨g1, g2⟩ := h.atom_lits ⟨h1, h2⟩
    unfold atomC
    rw [clause_sat ht g1 g2]
    constructor
    · rintro ⟨l, hl, e⟩ hta
      rcases List.mem_append.1 hl with hl | hl
      · obtain ⟨i, hi, hm, rfl⟩ := (mem_supAt _).1 hl
        exact ⟨i, hi, hm, e⟩
      · obtain rfl : l = -a := by simpa using hl
        rw [ht a (by omega), hta] at e; cases e
    · intro hi
      cases hta : t a with
      | true => obtain ⟨i, h3, h4, h5⟩ := hi hta; exact ⟨_, List.mem_append_left _ ((mem_supAt _).2 ⟨i, h3, h4, rfl⟩), h5⟩
      | false => exact ⟨-a, by simp, by rw [ht a (by omega), hta]; rfl⟩
  unfold compL
  simp only [List.mem_append]
  constructor
  · intro hc
    have hr := fun i (hi : i < p.rules.length) => ((h.rule i hi).comp_sat (h.bvar hi) ht).1 fun c hm => hc c (.inl ((mem_compTo _).2 ⟨i, hi, hm⟩))
    refine ⟨fun i hi => (hr i hi).1, fun i hi => (hr i hi).2, fun a h1 h2 => (hat a h1 h2).1 (hc _ (.inr ((mem_atomTo _).2 ⟨(a - 1).toNat, by omega, ?_⟩)))⟩
    rw [show (((a - 1).toNat : Nat) : Int) + 1 = a by omega]
  · rintro ⟨h1, h2, h3⟩ c (hm | hm)
    · obtain ⟨i, hi, hm⟩ := (mem_compTo _).1 hm
      exact ((h.rule i hi).comp_sat (h.bvar hi) ht).2 ⟨h1 i hi, h2 i hi⟩ c hm
    · obtain ⟨i, hi, rfl⟩ := (mem_atomTo _).1 hm
      exact (hat _ (by omega) (by omega)).2 (h3 _ (by omega) (by omega))

/-! ### Normal forms over the variables -/
theorem CompV.fine {p : GP} (h : CompV p) : ∀ c ∈ compL p, pbV c = true ∧ ∀ x ∈ c.lits, (x.natAbs : Int) ≤ p.n + p.rules.length := by
  have hcl : ∀ (L : List Int), (∀ l ∈ L, plitB l = true) → L.length ≤ 65536 → (∀ l ∈ L, (l.natAbs : Int) ≤ p.n + p.rules.length) → pbV (clauseP L).1 = true ∧ ∀ x ∈ (clauseP L).1.lits, (x.natAbs : Int) ≤ p.n + p.rules.length := fun L h1 h2 h3 => by
    have e := clauseP_fine h1 h2
    refine ⟨normP_valid (show normP (setL L) (ones (setL L).length) 1 = _ from e), fun x hx => ?_⟩
    obtain ⟨l, hl, e2⟩ := normP_vars (show normP (setL L) (ones (setL L).length) 1 = _ from e) x hx
    rw [← e2]
    exact h3 l (mem_setL.1 hl)
  have hno : ∀ (L K : List Int) (B : Int), normP L K B = ((normP L K B).1, 0) → (∀ l ∈ L, (l.natAbs : Int) ≤ p.n + p.rules.length) → pbV (normP L K B).1 = true ∧ ∀ x ∈ (normP L K B).1.lits, (x.natAbs : Int) ≤ p.n + p.rules.length := fun L K B e h3 => by
    refine ⟨normP_valid e, fun x hx => ?_⟩
    obtain ⟨l, hl, e2⟩ := normP_vars e x hx
    rw [← e2]
    exact h3 l hl
  intro c hc
  have hn := h.n
  rcases List.mem_append.1 hc with hm | hm
  · obtain ⟨i, hi, hm⟩ := (mem_compTo _).1 hm
    have hr := h.rule i hi
    have hb := h.bvar hi
    obtain ⟨p1, p2, p3, p4⟩ := hr.plits hb
    have hlen := hr.len
    have b1 : ∀ x ∈ (ixR p.rules i).body ++ [-(p.n + 1 + (i : Int))], (x.natAbs : Int) ≤ p.n + p.rules.length := fun x hx => by
      rcases List.mem_append.1 hx with hx | hx
      · have := hr.body x hx; omega
      · obtain rfl : x = _ := by simpa using hx
        omega
    have b2 : ∀ x ∈ negL (ixR p.rules i).body ++ [p.n + 1 + (i : Int)], (x.natAbs : Int) ≤ p.n + p.rules.length := fun x hx => by
      rcases List.mem_append.1 hx with hx | hx
      · unfold negL at hx
        obtain ⟨y, hy, rfl⟩ := List.mem_map.1 hx
        have := hr.body y hy; omega
      · obtain rfl : x = _ := by simpa using hx
        omega
    rcases List.mem_append.1 hm with hm | hm
    · unfold compH at hm
      split at hm
      · rename_i hs
        rcases List.mem_cons.1 hm with rfl | hm
        · exact hno _ _ _ (hr.sum1 hb hs) b1
        · obtain rfl : c = _ := by simpa using hm
          exact hno _ _ _ (hr.sum2 hb hs) b2
      · rcases List.mem_append.1 hm with hm | hm
        · obtain ⟨l, hl, rfl⟩ := List.mem_map.1 hm
          refine hcl _ (p4 l hl) (by simp) fun x hx => ?_
          rcases List.mem_cons.1 hx with rfl | hx
          · omega
          · obtain rfl : x = l := by simpa using hx
            have := hr.body x hl; omega
        · obtain rfl : c = _ := by simpa using hm
          exact hcl _ p2 (by simp [negL_len]; omega) b2
    · split at hm
      · simp at hm
      · obtain rfl : c = _ := by simpa using hm
        refine hcl _ p3 (by simp; omega) fun x hx => ?_
        rcases List.mem_append.1 hx with hx | hx
        · have := hr.head x hx; omega
        · obtain rfl : x = _ := by simpa using hx
          omega
  · obtain ⟨i, hi, rfl⟩ := (mem_atomTo _).1 hm
    obtain ⟨g1, g2⟩ := h.atom_lits (a := (i : Int) + 1) (by omega)
    refine hcl _ g1 g2 fun x hx => ?_
    rcases List.mem_append.1 hx with hx | hx
    · obtain ⟨j, hj, -, rfl⟩ := (mem_supAt _).1 hx
      omega
    · obtain rfl : x = -((i : Int) + 1) := by simpa using hx
      omega

/-! ### The number of constraints -/
def compN (r : GR) : Nat := (if r.sum then 2 else r.body.length + 1) + (if r.choice then 0 else 1)
def compNs (p : GP) : Nat → Nat
  | 0 => 0
  | k + 1 => compNs p k + compN (ixR p.rules k)

theorem compR_len (r : GR) (b : Int) : (compR r b).length = compN r := by
  unfold compR compH compN
  rw [List.length_append]
  cases r.sum <;> cases r.choice <;> simp
theorem compTo_len (p : GP) : ∀ k, (compTo p k).length = compNs p k
  | 0 => rfl
  | k + 1 => by rw [compTo, List.length_append, compTo_len p k, compR_len, compNs]
theorem atomTo_len (p : GP) : ∀ k, (atomTo p k).length = k
  | 0 => rfl
  | k + 1 => by rw [atomTo, List.length_append, atomTo_len p k]; rfl
theorem compL_len (p : GP) : (compL p).length = compNs p p.rules.length + p.n.toNat := by
  unfold compL
  rw [List.length_append, compTo_len, atomTo_len]

end Go.Proofs.YtoahecjdkgeamaaGreatDoor
