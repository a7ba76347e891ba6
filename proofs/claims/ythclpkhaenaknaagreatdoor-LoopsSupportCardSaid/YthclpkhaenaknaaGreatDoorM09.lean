/- My texts PbL, PbV, ExtR, merged. -/
import Derived.Test.YthclpkhaenaknaaGreatDoorM07
import Derived.Test.YthclpkhaenaknaaGreatDoorM00
import Derived.Sort.QuietThIn
import Derived.RangeFuncCalls

/- Pseudo-Boolean constraints: what the normal form says (plain). -/
namespace Go.Proofs.YthclpkhaenaknaaGreatDoor

/-- The coefficients of the literals for which t holds. -/
def sumW (t : Int → Bool) : List (Int × Int) → Int
  | [] => 0
  | x :: l => (if t x.1 then x.2 else 0) + sumW t l

/-- The coefficients of the first i literals for which t holds. -/
def sumLK (t : Int → Bool) (L K : List Int) : Nat → Int
  | 0 => 0
  | i + 1 => sumLK t L K i + (if t (ix L i) then ix K i else 0)

/-- The constraint is satisfied. -/
def satC (t : Int → Bool) (c : PBC) : Bool := decide (c.bound ≤ sumW t (c.lits.zip c.coefs))

/-- A truth of literals. -/
def Tot (t : Int → Bool) : Prop := ∀ l, l ≠ 0 → t (-l) = !t l

theorem sumW_snoc (t : Int → Bool) : ∀ (l : List (Int × Int)) (x : Int × Int), sumW t (l ++ [x]) = sumW t l + if t x.1 then x.2 else 0
  | [], x => by simp [sumW]
  | y :: l, x => by simp only [List.cons_append, sumW, sumW_snoc t l x]; omega

theorem sumW_zip (t : Int → Bool) (g f : Int → Int) : ∀ V : List Int, sumW t ((V.map g).zip (V.map f)) = sumI (fun v => if t (g v) then f v else 0) V
  | [] => rfl
  | v :: V => by simp only [List.map_cons, List.zip_cons_cons, sumW, sumI, sumW_zip t g f V]

theorem sumI_congr {f g : Int → Int} : ∀ {V : List Int}, (∀ v ∈ V, f v = g v) → sumI f V = sumI g V
  | [], _ => rfl
  | v :: V, h => by
    simp only [sumI]
    rw [h v (.head _), sumI_congr fun u hu => h u (.tail _ hu)]

theorem sumI_add (f g : Int → Int) : ∀ V : List Int, sumI (fun v => f v + g v) V = sumI f V + sumI g V
  | [] => rfl
  | v :: V => by simp only [sumI, sumI_add f g V]; omega

theorem sumI_zero : ∀ V : List Int, sumI (fun _ => 0) V = 0
  | [] => rfl
  | v :: V => by simp only [sumI, sumI_zero V]; omega

theorem sumI_delta (d v0 : Int) : ∀ V : List Int, V.Nodup → v0 ∈ V → sumI (fun v => if v = v0 then d else 0) V = d
  | [], _, h => by cases h
  | v :: V, hn, h => by
    obtain ⟨h1, h2⟩ := List.nodup_cons.1 hn
    simp only [sumI]
    by_cases e : v = v0
    · subst e
      rw [if_pos rfl, sumI_congr (g := fun _ => 0) fun u hu => if_neg (fun e' : u = v => h1 (e' ▸ hu)), sumI_zero]
      omega
    · rw [if_neg e, sumI_delta d v0 V h2 ((List.mem_cons.1 h).resolve_left fun e' => e e'.symm)]
      omega

theorem sumI_filter (f : Int → Int) (p : Int → Bool) : ∀ V : List Int, (∀ v ∈ V, p v = false → f v = 0) → sumI f (V.filter p) = sumI f V
  | [], _ => rfl
  | v :: V, h => by
    have ih := sumI_filter f p V fun u hu => h u (.tail _ hu)
    cases hp : p v with
    | true => rw [List.filter_cons_of_pos hp]; simp only [sumI, ih]
    | false => rw [List.filter_cons_of_neg (by simp [hp])]; simp only [sumI, ih, h v (.head _) hp]; omega

theorem sumI_nonneg {f : Int → Int} : ∀ {V : List Int}, (∀ v ∈ V, 0 ≤ f v) → 0 ≤ sumI f V
  | [], _ => by simp [sumI]
  | v :: V, h => by
    have := sumI_nonneg fun u hu => h u (.tail _ hu)
    have := h v (.head _)
    simp only [sumI]; omega

theorem sumI_le {f g : Int → Int} : ∀ {V : List Int}, (∀ v ∈ V, f v ≤ g v) → sumI f V ≤ sumI g V
  | [], _ => by simp [sumI]
  | v :: V, h => by
    have := sumI_le fun u hu => h u (.tail _ hu)
    have := h v (.head _)
    simp only [sumI]; omega

theorem sumI_mem_le {f : Int → Int} {x : Int} : ∀ {V : List Int}, (∀ v ∈ V, 0 ≤ f v) → x ∈ V → f x ≤ sumI f V
  | [], _, h => by cases h
  | v :: V, h, hx => by
    simp only [sumI]
    rcases List.mem_cons.1 hx with rfl | hx
    · have := sumI_nonneg (V := V) fun u hu => h u (.tail _ hu); omega
    · have := sumI_mem_le (V := V) (fun u hu => h u (.tail _ hu)) hx
      have := h v (.head _)
      omega

/-- Cutting coefficients down to the bound changes nothing. -/
theorem clip_iff {m : Int → Int} {p : Int → Bool} {bd : Int} (hb : 0 < bd) {V : List Int} (hm : ∀ v ∈ V, 0 ≤ m v) :
    bd ≤ sumI (fun v => if p v then minI (m v) bd else 0) V ↔ bd ≤ sumI (fun v => if p v then m v else 0) V := by
  constructor
  · intro h
    refine Int.le_trans h (sumI_le fun v hv => ?_)
    have := hm v hv
    split
    · unfold minI; split <;> omega
    · omega
  · intro h
    by_cases hx : ∃ v ∈ V, p v = true ∧ bd ≤ m v
    · obtain ⟨v, hv, hp, hb2⟩ := hx
      have h1 := sumI_mem_le (f := fun v => if p v then minI (m v) bd else 0) (x := v) (V := V) (fun u hu => by
        have := hm u hu
        show 0 ≤ if p u then minI (m u) bd else 0
        split
        · unfold minI; split <;> omega
        · omega) hv
      simp only [hp, if_true] at h1
      have : minI (m v) bd = bd := by unfold minI; split <;> omega
      omega
    · rw [sumI_congr (g := fun v => if p v then m v else 0) fun v hv => ?_]
      · exact h
      · show (if p v then minI (m v) bd else 0) = if p v then m v else 0
        cases hp : p v with
        | false => rfl
        | true =>
          have : ¬ bd ≤ m v := fun h => hx ⟨v, hv, hp, h⟩
          simp only [if_true]
          unfold minI; rw [if_pos (by omega)]

theorem byTo_succ (L K : List Int) (v : Int) (i : Nat) : byTo L K v (i + 1) = byTo L K v i + (if ix L i = v then ix K i else if ix L i = -v then -ix K i else 0) := rfl

theorem byTo_zero_of {L K : List Int} {v : Int} : ∀ (i : Nat), (∀ j, j < i → ix L j ≠ v ∧ ix L j ≠ -v) → byTo L K v i = 0
  | 0, _ => rfl
  | i + 1, h => by
    rw [byTo_succ]
    have := h i (by omega)
    rw [byTo_zero_of i fun j hj => h j (by omega), if_neg this.1, if_neg this.2]
    omega

/-- The sum over the literals is the sum over the variables. -/
theorem sum_vars {t : Int → Bool} (ht : Tot t) {L K : List Int} {V : List Int} (hn : V.Nodup) (hpos : ∀ v ∈ V, 0 < v) :
    ∀ (i : Nat), (∀ j, j < i → ix L j ≠ 0 ∧ ((ix L j).natAbs : Int) ∈ V) →
      sumLK t L K i = negTo L K i + sumI (fun v => if t v then byTo L K v i else 0) V
  | 0, _ => by
    simp only [sumLK, negTo, byTo]
    rw [sumI_congr (g := fun _ => 0) fun v _ => by simp, sumI_zero]; rfl
  | i + 1, h => by
    have ih := sum_vars (K := K) ht hn hpos i fun j hj => h j (by omega)
    obtain ⟨h1, h2⟩ := h i (by omega)
    have hd := sumI_delta (if t ((ix L i).natAbs : Int) then (if 0 < ix L i then ix K i else -ix K i) else 0) ((ix L i).natAbs : Int) V hn h2
    have hc : sumI (fun v => if t v then byTo L K v (i + 1) else 0) V = sumI (fun v => (if t v then byTo L K v i else 0) + (if v = ((ix L i).natAbs : Int) then (if t ((ix L i).natAbs : Int) then (if 0 < ix L i then ix K i else -ix K i) else 0) else 0)) V := by
      refine sumI_congr fun v hv => ?_
      have hv0 := hpos v hv
      show (if t v then byTo L K v (i + 1) else 0) = _
      rw [byTo_succ]
      by_cases e : v = ((ix L i).natAbs : Int)
      · subst e
        rw [if_pos rfl]
        cases t ((ix L i).natAbs : Int) with
        | false => simp
        | true =>
          simp only [if_true]
          by_cases hp : 0 < ix L i
          · rw [if_pos (show ix L i = ((ix L i).natAbs : Int) by omega), if_pos hp]
          · rw [if_neg (show ¬ ix L i = ((ix L i).natAbs : Int) by omega), if_pos (show ix L i = -((ix L i).natAbs : Int) by omega), if_neg hp]
      · rw [if_neg e, if_neg (show ¬ ix L i = v by omega), if_neg (show ¬ ix L i = -v by omega)]
        simp
    rw [hc, sumI_add, hd]
    unfold sumLK negTo
    rw [ih]
    by_cases hp : 0 < ix L i
    · have e : ((ix L i).natAbs : Int) = ix L i := by omega
      rw [e, if_pos hp, if_neg (show ¬ ix L i < 0 by omega)]
      omega
    · have e : ((ix L i).natAbs : Int) = -ix L i := by omega
      have ht2 := ht (ix L i) h1
      rw [e, if_neg hp, if_pos (show ix L i < 0 by omega), ht2]
      cases t (ix L i) <;> simp <;> omega

theorem sum_lits {t : Int → Bool} (ht : Tot t) {by' : Int → Int} : ∀ {V : List Int}, (∀ v ∈ V, v ≠ 0) →
    sumI (fun v => if t v then by' v else 0) V = sumI (fun v => if t (litOf by' v) then absI (by' v) else 0) V + sumI (fun v => lowI (by' v)) V := by
  intro V hV
  rw [← sumI_add]
  refine sumI_congr fun v hv => ?_
  show (if t v then by' v else 0) = (if t (litOf by' v) then absI (by' v) else 0) + lowI (by' v)
  unfold litOf absI lowI
  by_cases h : by' v < 0
  · simp only [if_pos h]
    rw [ht v (hV v hv)]
    cases t v <;> simp <;> omega
  · simp only [if_neg h]; omega

theorem satC_triv (t : Int → Bool) : satC t ⟨[], [], 0⟩ = true := by simp [satC, sumW]
theorem satC_contra (t : Int → Bool) : satC t ⟨[], [], 1⟩ = false := by simp [satC, sumW]

theorem keys_pos {L : List Int} (h : ∀ j, j < L.length → ix L j ≠ 0) : ∀ v ∈ keysOf L, 0 < v := by
  intro v hv
  obtain ⟨l, hl, rfl⟩ := mem_keys.1 hv
  obtain ⟨j, hj, rfl⟩ := List.mem_iff_getElem.1 hl
  have := h j hj
  have e : ix L j = L[j] := by simp [ix, List.getD_eq_getElem?_getD, List.getElem?_eq_getElem hj]
  rw [e] at this
  omega

theorem ix_get {L : List Int} {j : Nat} (hj : j < L.length) : ix L j = L[j] := by simp [ix, List.getD_eq_getElem?_getD, List.getElem?_eq_getElem hj]

theorem normC_sat {t : Int → Bool} {by' : Int → Int} {V : List Int} {bd : Int} {c : PBC} (h : normC by' V bd = (c, 0)) :
    satC t c = true ↔ bd ≤ sumI (fun v => if t (litOf by' v) then absI (by' v) else 0) V := by
  have hab : ∀ v : Int, 0 ≤ absI (by' v) := fun v => by unfold absI; split <;> omega
  unfold normC at h
  split at h
  · rename_i h0
    cases h
    rw [satC_triv]
    refine ⟨fun _ => ?_, fun _ => rfl⟩
    refine Int.le_trans h0 (sumI_nonneg fun v _ => ?_)
    have := hab v
    show 0 ≤ if _ then _ else (0 : Int)
    split <;> omega
  · rename_i h0
    split at h
    · rename_i h1
      cases h
      rw [satC_contra]
      refine ⟨fun h => (by cases h), fun h => ?_⟩
      exfalso
      have h2 := (clip_iff (m := fun v => absI (by' v)) (p := fun v => t (litOf by' v)) (bd := bd) (by omega) (V := V) (fun v _ => hab v)).2 h
      have h3 := sumI_le (f := fun v => if t (litOf by' v) then minI (absI (by' v)) bd else 0) (g := fun v => minI (absI (by' v)) bd) (V := V) fun v _ => by
        have := hab v
        show (if _ then _ else (0 : Int)) ≤ _
        split
        · omega
        · unfold minI; split <;> omega
      omega
    · split at h
      · cases h
      · cases h
        unfold satC
        rw [decide_eq_true_eq]
        show bd ≤ sumW t ((V.map (litOf by')).zip (V.map fun v => minI (absI (by' v)) bd)) ↔ _
        rw [sumW_zip]
        exact clip_iff (m := fun v => absI (by' v)) (p := fun v => t (litOf by' v)) (by omega) fun v _ => hab v

/-- The normal form says what the inequality says. -/
theorem normP_sat {t : Int → Bool} (ht : Tot t) {L K : List Int} {B : Int} {c : PBC} (h : normP L K B = (c, 0)) : satC t c = true ↔ B ≤ sumLK t L K L.length := by
  unfold normP at h
  split at h
  · cases h
  split at h
  · cases h
  rename_i h1 h2
  have hok : ∀ j, j < L.length → pokAt L K j = true := allR_get (by simpa using h2)
  have hl : ∀ j, j < L.length → ix L j ≠ 0 := fun j hj => by
    have := hok j hj
    unfold pokAt plitB at this
    simp only [Bool.and_eq_true, decide_eq_true_eq] at this
    exact this.1.1
  have hV : ∀ j, j < L.length → ix L j ≠ 0 ∧ ((ix L j).natAbs : Int) ∈ keysOf L := fun j hj => ⟨hl j hj, mem_keys.2 ⟨ix L j, by rw [ix_get hj]; exact List.getElem_mem hj, rfl⟩⟩
  have hs := sum_vars (K := K) ht (sorted_nodup (keys_sorted L)) (keys_pos hl) L.length hV
  have hb := sum_lits ht (by' := fun v => byTo L K v L.length) (V := keysOf L) fun v hv => by have := keys_pos hl v hv; omega
  rw [normC_sat h, sumI_filter]
  · omega
  · intro v _ hv
    have : byTo L K v L.length = 0 := by simpa using hv
    show (if _ then absI (byTo L K v L.length) else (0 : Int)) = 0
    rw [this]; simp [absI]

end Go.Proofs.YthclpkhaenaknaaGreatDoor

/- Pseudo-Boolean constraints: validity (plain), clauses. -/
namespace Go.Proofs.YthclpkhaenaknaaGreatDoor

/-! ### Valid -/
def chkB (bd last : Int) (x : Int × Int) : Bool := plitB x.1 && decide (last < (x.1.natAbs : Int)) && decide (1 ≤ x.2) && decide (x.2 ≤ bd)
def lastF (last : Int) (l : List (Int × Int)) : Int := l.foldl (fun _ x => (x.1.natAbs : Int)) last
def okF (bd : Int) : Int → List (Int × Int) → Bool
  | _, [] => true
  | last, x :: l => chkB bd last x && okF bd (x.1.natAbs : Int) l
def sumP : List (Int × Int) → Int
  | [] => 0
  | x :: l => x.2 + sumP l

theorem lastF_snoc (last : Int) (l : List (Int × Int)) (x : Int × Int) : lastF last (l ++ [x]) = (x.1.natAbs : Int) := by simp [lastF]
theorem okF_snoc (bd : Int) : ∀ (l : List (Int × Int)) (last : Int) (x : Int × Int), okF bd last (l ++ [x]) = (okF bd last l && chkB bd (lastF last l) x)
  | [], last, x => by simp [okF, lastF]
  | y :: l, last, x => by
    have ih := okF_snoc bd l (y.1.natAbs : Int) x
    simp only [List.cons_append, okF, ih, lastF, List.foldl_cons, Bool.and_assoc]
theorem sumP_snoc : ∀ (l : List (Int × Int)) (x : Int × Int), sumP (l ++ [x]) = sumP l + x.2
  | [], x => by simp [sumP]
  | y :: l, x => by simp only [List.cons_append, sumP, sumP_snoc l x]; omega

/-- In order: the last variable is at least the number, and the sum is bounded. -/
theorem okF_bound {bd : Int} : ∀ (l : List (Int × Int)) (last : Int), 0 ≤ last → okF bd last l = true → last + l.length ≤ lastF last l ∧ 0 ≤ sumP l ∧ sumP l ≤ bd * l.length ∧ (l ≠ [] → lastF last l ≤ 65536)
  | [], last, h, _ => by simp [lastF, sumP]
  | x :: l, last, h, ho => by
    unfold okF chkB plitB at ho
    simp only [Bool.and_eq_true, decide_eq_true_eq] at ho
    obtain ⟨⟨⟨⟨h1, h2⟩, h3⟩, h4⟩, h5⟩ := ho
    obtain ⟨i1, i2, i3, i4⟩ := okF_bound l (x.1.natAbs : Int) (by omega) h5
    have e : lastF last (x :: l) = lastF (x.1.natAbs : Int) l := rfl
    rw [e]
    simp only [sumP, List.length_cons]
    push_cast
    rw [Int.mul_add]
    refine ⟨by omega, by omega, by omega, fun _ => ?_⟩
    cases l with
    | nil => simp only [lastF, List.foldl_nil]; omega
    | cons y l => exact i4 (by simp)

/-- Valid: the normal form. -/
def pbV (c : PBC) : Bool :=
  decide (c.lits.length = c.coefs.length) && decide (0 ≤ c.bound ∧ c.bound ≤ 16777216) && okF c.bound 0 (c.lits.zip c.coefs) && (decide (c.bound ≤ sumP (c.lits.zip c.coefs)) || (decide (c.lits.length = 0) && decide (c.bound = 1)))

theorem okF_false {bd : Int} : ∀ (l r : List (Int × Int)) (last : Int), okF bd last l = false → okF bd last (l ++ r) = false
  | [], r, last, h => by simp [okF] at h
  | x :: l, r, last, h => by
    simp only [List.cons_append, okF, Bool.and_eq_false_iff] at h ⊢
    rcases h with h | h
    · exact .inl h
    · exact .inr (okF_false l r _ h)


/-! ### The normal form is valid -/
theorem okF_of {bd : Int} : ∀ {l : List (Int × Int)} {last : Int}, (∀ x ∈ l, plitB x.1 = true ∧ last < (x.1.natAbs : Int) ∧ 1 ≤ x.2 ∧ x.2 ≤ bd) → l.Pairwise (fun x y => (x.1.natAbs : Int) < (y.1.natAbs : Int)) → okF bd last l = true
  | [], _, _, _ => rfl
  | x :: l, last, h, hp => by
    obtain ⟨h1, h2⟩ := List.pairwise_cons.1 hp
    obtain ⟨a, b, c, d⟩ := h x (.head _)
    unfold okF chkB
    rw [a, decide_eq_true b, decide_eq_true c, decide_eq_true d, okF_of (fun y hy => ⟨(h y (.tail _ hy)).1, h1 y hy, (h y (.tail _ hy)).2.2⟩) h2]
    rfl

theorem sumP_zip (g f : Int → Int) : ∀ V : List Int, sumP ((V.map g).zip (V.map f)) = sumI f V
  | [] => rfl
  | v :: V => by simp only [List.map_cons, List.zip_cons_cons, sumP, sumI, sumP_zip g f V]

theorem litOf_abs (by' : Int → Int) {v : Int} (hv : 0 < v) : ((litOf by' v).natAbs : Int) = v := by unfold litOf; split <;> omega

theorem normC_valid {by' : Int → Int} {V : List Int} {bd : Int} {c : PBC} (h : normC by' V bd = (c, 0)) (hs : V.Pairwise (· < ·)) (hv : ∀ v ∈ V, 0 < v ∧ v ≤ 65536 ∧ by' v ≠ 0) : pbV c = true := by
  unfold normC at h
  split at h
  · cases h; decide
  · split at h
    · cases h; decide
    · split at h
      · cases h
      · rename_i h1 h2 h3
        cases h
        unfold pbV
        simp only [List.length_map, decide_true, Bool.true_and]
        have hok : okF bd 0 ((V.map (litOf by')).zip (V.map fun v => minI (absI (by' v)) bd)) = true := by
          rw [List.zip_map', ]
          refine okF_of (fun x hx => ?_) ?_
          · obtain ⟨v, hv', rfl⟩ := List.mem_map.1 hx
            obtain ⟨a, b, d⟩ := hv v hv'
            have e := litOf_abs by' a
            refine ⟨?_, by show 0 < ((litOf by' v).natAbs : Int); omega, ?_, ?_⟩
            · show plitB (litOf by' v) = true
              unfold plitB; rw [decide_eq_true_eq]; omega
            · show 1 ≤ minI (absI (by' v)) bd
              unfold minI absI; repeat' split
              all_goals omega
            · show minI (absI (by' v)) bd ≤ bd
              unfold minI; split <;> omega
          · rw [List.pairwise_map]
            refine hs.imp_of_mem fun {x y} hx hy hxy => ?_
            show ((litOf by' x).natAbs : Int) < ((litOf by' y).natAbs : Int)
            rw [litOf_abs by' (hv x hx).1, litOf_abs by' (hv y hy).1]; exact hxy
        rw [hok, sumP_zip, decide_eq_true (show 0 ≤ bd ∧ bd ≤ 16777216 by omega), decide_eq_true (show bd ≤ sumI (fun v => minI (absI (by' v)) bd) V by omega)]
        rfl

theorem normP_form {L K : List Int} {B : Int} {c : PBC} (h : normP L K B = (c, 0)) : (∀ l ∈ L, plitB l = true) ∧ L.length = K.length ∧
    normC (fun v => byTo L K v L.length) ((keysOf L).filter fun v => byTo L K v L.length != 0) (B - negTo L K L.length - sumI (fun v => lowI (byTo L K v L.length)) (keysOf L)) = (c, 0) := by
  unfold normP at h
  split at h
  · cases h
  split at h
  · cases h
  rename_i h1 h2
  refine ⟨fun l hl => ?_, by omega, h⟩
  obtain ⟨j, hj, rfl⟩ := List.mem_iff_getElem.1 hl
  have := allR_get (f := pokAt L K) (by simpa using h2) j hj
  unfold pokAt at this
  rw [Bool.and_eq_true, ix_get hj] at this
  exact this.1

theorem normP_keys {L K : List Int} {B : Int} {c : PBC} (h : normP L K B = (c, 0)) : ∀ v ∈ (keysOf L).filter (fun v => byTo L K v L.length != 0), 0 < v ∧ v ≤ 65536 ∧ byTo L K v L.length ≠ 0 := by
  intro v hv
  obtain ⟨h1, h2⟩ := List.mem_filter.1 hv
  obtain ⟨l, hl, rfl⟩ := mem_keys.1 h1
  have := (normP_form h).1 l hl
  unfold plitB at this
  rw [decide_eq_true_eq] at this
  exact ⟨by omega, by omega, by simpa using h2⟩

theorem normP_valid {L K : List Int} {B : Int} {c : PBC} (h : normP L K B = (c, 0)) : pbV c = true :=
  normC_valid (normP_form h).2.2 ((keys_sorted L).filter _) (normP_keys h)

/-- The variables of the normal form are among those of the inequality. -/
theorem normP_vars {L K : List Int} {B : Int} {c : PBC} (h : normP L K B = (c, 0)) : ∀ x ∈ c.lits, ∃ l ∈ L, l.natAbs = x.natAbs := by
  intro x hx
  have hf := (normP_form h).2.2
  have hk := normP_keys h
  unfold normC at hf
  split at hf
  · cases hf; cases hx
  · split at hf
    · cases hf; cases hx
    · split at hf
      · cases hf
      · cases hf
        obtain ⟨v, hv, rfl⟩ := List.mem_map.1 hx
        obtain ⟨l, hl, e⟩ := mem_keys.1 (List.mem_filter.1 hv).1
        have := litOf_abs (fun v => byTo L K v L.length) (hk v hv).1
        exact ⟨l, hl, by omega⟩

/-! ### Clauses -/
def setL (L : List Int) : List Int := L.foldr insK []
theorem mem_setL {x : Int} : ∀ {L : List Int}, x ∈ setL L ↔ x ∈ L
  | [] => by simp [setL]
  | y :: L => by
    show x ∈ insK y (setL L) ↔ _
    rw [mem_insK, mem_setL, List.mem_cons]
theorem setL_sorted : ∀ L : List Int, (setL L).Pairwise (· < ·)
  | [] => by simp [setL]
  | _ :: L => insK_sorted (setL_sorted L)

def ones (n : Nat) : List Int := List.replicate n 1
theorem ones_ix {n j : Nat} (hj : j < n) : ix (ones n) j = 1 := by simp [ix, ones, List.getD_eq_getElem?_getD, hj]

def clauseP (L : List Int) : PBC × Int := normP (setL L) (ones (setL L).length) 1

theorem sumLK_ones {t : Int → Bool} {S : List Int} {n : Nat} : ∀ (i : Nat), i ≤ n → i ≤ S.length → 0 ≤ sumLK t S (ones n) i ∧ (1 ≤ sumLK t S (ones n) i ↔ ∃ j, j < i ∧ t (ix S j) = true)
  | 0, _, _ => by simp [sumLK]
  | i + 1, h, h' => by
    obtain ⟨i1, i2⟩ := sumLK_ones (t := t) (S := S) (n := n) i (by omega) (by omega)
    unfold sumLK
    rw [ones_ix (show i < n by omega)]
    cases hT : t (ix S i) with
    | true => exact ⟨by simp; omega, fun _ => ⟨i, by omega, hT⟩, fun _ => by simp; omega⟩
    | false =>
      refine ⟨by simp; omega, fun h => ?_, fun ⟨j, hj, hj2⟩ => ?_⟩
      · obtain ⟨j, hj, hj2⟩ := i2.1 (by simp at h; exact h)
        exact ⟨j, by omega, hj2⟩
      · have : j ≠ i := by rintro rfl; rw [hT] at hj2; cases hj2
        have := i2.2 ⟨j, by omega, hj2⟩
        simp; omega

theorem mem_ix_iff {S : List Int} {x : Int} : x ∈ S ↔ ∃ j, j < S.length ∧ ix S j = x := by
  constructor
  · intro h
    obtain ⟨j, hj, rfl⟩ := List.mem_iff_getElem.1 h
    exact ⟨j, hj, ix_get hj⟩
  · rintro ⟨j, hj, rfl⟩
    rw [ix_get hj]; exact List.getElem_mem hj

/-- A clause says that one of its literals holds. -/
theorem clauseP_sat {t : Int → Bool} (ht : Tot t) {L : List Int} {c : PBC} (h : clauseP L = (c, 0)) : satC t c = true ↔ ∃ l ∈ L, t l = true := by
  rw [normP_sat ht h, (sumLK_ones (t := t) (S := setL L) (n := (setL L).length) _ (Nat.le_refl _) (Nat.le_refl _)).2]
  constructor
  · rintro ⟨j, hj, h⟩
    exact ⟨_, mem_setL.1 (mem_ix_iff.2 ⟨j, hj, rfl⟩), h⟩
  · rintro ⟨l, hl, h⟩
    obtain ⟨j, hj, rfl⟩ := mem_ix_iff.1 (mem_setL.2 hl)
    exact ⟨j, hj, h⟩

/-- The coefficient of a variable in a clause. -/
theorem byTo_ones {S : List Int} (hs : S.Nodup) {v : Int} (hv : 0 < v) : ∀ (i : Nat), i ≤ S.length → byTo S (ones S.length) v i = (if v ∈ S.take i then 1 else 0) - (if -v ∈ S.take i then 1 else 0)
  | 0, _ => by simp [byTo]
  | i + 1, h => by
    have ih := byTo_ones hs hv i (by omega)
    have hi : i < S.length := by omega
    have e := List.take_succ_eq_append_getElem hi
    have hni : S[i] ∉ S.take i := by
      intro hm
      have hnd : (S.take (i + 1)).Nodup := hs.sublist (List.take_sublist _ _)
      rw [e] at hnd
      exact (List.nodup_append.1 hnd).2.2 _ hm _ (List.mem_singleton.2 rfl) rfl
    unfold byTo
    rw [ih, ones_ix hi, ix_get hi, e]
    simp only [List.mem_append, List.mem_singleton]
    by_cases e1 : S[i] = v
    · have hv1 : v ∉ S.take i := e1 ▸ hni
      have c1 : (v ∈ S.take i ∨ v = S[i]) ↔ True := ⟨fun _ => trivial, fun _ => .inr e1.symm⟩
      have c2 : (-v ∈ S.take i ∨ -v = S[i]) ↔ -v ∈ S.take i := ⟨fun h => h.resolve_right (by omega), .inl⟩
      rw [if_pos e1]
      simp only [c1, c2, if_true, if_neg hv1]
      omega
    · rw [if_neg e1]
      have hv1 : (v ∈ S.take i ∨ v = S[i]) ↔ v ∈ S.take i := ⟨fun h => h.resolve_right fun h => e1 h.symm, .inl⟩
      simp only [hv1]
      by_cases e2 : S[i] = -v
      · have hv2 : -v ∉ S.take i := e2 ▸ hni
        rw [if_pos e2]
        have c2 : (-v ∈ S.take i ∨ -v = S[i]) ↔ True := ⟨fun _ => trivial, fun _ => .inr e2.symm⟩
        simp only [c2, if_true, if_neg hv2]
        omega
      · rw [if_neg e2]
        have hv2 : (-v ∈ S.take i ∨ -v = S[i]) ↔ -v ∈ S.take i := ⟨fun h => h.resolve_right fun h => e2 h.symm, .inl⟩
        simp only [hv2]
        omega

theorem byTo_set {S : List Int} (hs : S.Nodup) {v : Int} (hv : 0 < v) : byTo S (ones S.length) v S.length = (if v ∈ S then 1 else 0) - (if -v ∈ S then 1 else 0) := by
  rw [byTo_ones hs hv _ (Nat.le_refl _), List.take_length]

/-- The literals of a clause, by variable. -/
def varsorted (S : List Int) : List Int := (keysOf S).map fun v => if v ∈ S then v else -v

/-- A literal stands there with its negation. -/
def clash (L : List Int) : Prop := ∃ v ∈ L, -v ∈ L

theorem clauseP_form {L : List Int} (hl : ∀ l ∈ L, plitB l = true) (hlen : (setL L).length ≤ 65536) :
    (clash L → clauseP L = (⟨[], [], 0⟩, 0)) ∧ (L = [] → clauseP L = (⟨[], [], 1⟩, 0)) ∧
    (¬ clash L → L ≠ [] → clauseP L = (⟨varsorted (setL L), ones (keysOf (setL L)).length, 1⟩, 0)) := by
  have hl' : ∀ l ∈ setL L, plitB l = true := fun l h => hl l (mem_setL.1 h)
  have hnd := sorted_nodup (setL_sorted L)
  have hnz : ∀ j, j < (setL L).length → ix (setL L) j ≠ 0 := fun j hj => by
    have := hl' _ (mem_ix_iff.2 ⟨j, hj, rfl⟩)
    unfold plitB at this
    rw [decide_eq_true_eq] at this
    exact this.1
  have hkp := keys_pos hnz
  -- the number of clashes
  let t : Int → Bool := fun l => if 0 < l then !decide (l ∈ setL L) else decide (-l ∈ setL L)
  have ht : Tot t := fun l h0 => by
    show (if 0 < -l then !decide (-l ∈ setL L) else decide (- -l ∈ setL L)) = !(if 0 < l then !decide (l ∈ setL L) else decide (-l ∈ setL L))
    by_cases h : 0 < l
    · rw [if_neg (by omega), if_pos h, Int.neg_neg, Bool.not_not]
    · rw [if_pos (by omega), if_neg h]
  have hsum := sum_vars (K := ones (setL L).length) ht (sorted_nodup (keys_sorted (setL L))) hkp (setL L).length fun j hj => ⟨hnz j hj, mem_keys.2 ⟨ix (setL L) j, mem_ix_iff.2 ⟨j, hj, rfl⟩, rfl⟩⟩
  have hlow : sumI (fun v => lowI (byTo (setL L) (ones (setL L).length) v (setL L).length)) (keysOf (setL L)) = sumI (fun v => if t v then byTo (setL L) (ones (setL L).length) v (setL L).length else 0) (keysOf (setL L)) := by
    refine sumI_congr fun v hv => ?_
    have h0 := hkp v hv
    show lowI _ = if (if 0 < v then !decide (v ∈ setL L) else decide (-v ∈ setL L)) then _ else (0 : Int)
    rw [byTo_set hnd h0, if_pos h0]
    by_cases h1 : v ∈ setL L <;> by_cases h2 : -v ∈ setL L <;> simp [h1, h2, lowI]
  have hnb := sumLK_ones (t := t) (S := setL L) (n := (setL L).length) _ (Nat.le_refl _) (Nat.le_refl _)
  have hcl : (∃ j, j < (setL L).length ∧ t (ix (setL L) j) = true) ↔ clash L := by
    constructor
    · rintro ⟨j, hj, h⟩
      have hm : ix (setL L) j ∈ setL L := mem_ix_iff.2 ⟨j, hj, rfl⟩
      have h' : (if 0 < ix (setL L) j then !decide (ix (setL L) j ∈ setL L) else decide (-ix (setL L) j ∈ setL L)) = true := h
      split at h'
      · simp [hm] at h'
      · exact ⟨_, mem_setL.1 hm, mem_setL.1 (by simpa using h')⟩
    · rintro ⟨v, hv, hv2⟩
      have h0 : v ≠ 0 := by have := hl v hv; unfold plitB at this; rw [decide_eq_true_eq] at this; exact this.1
      by_cases hp : 0 < v
      · obtain ⟨j, hj, e⟩ := mem_ix_iff.1 (mem_setL.2 hv2)
        refine ⟨j, hj, ?_⟩
        show (if 0 < ix (setL L) j then !decide (ix (setL L) j ∈ setL L) else decide (-ix (setL L) j ∈ setL L)) = true
        rw [e, if_neg (by omega), Int.neg_neg]
        exact decide_eq_true (mem_setL.2 hv)
      · obtain ⟨j, hj, e⟩ := mem_ix_iff.1 (mem_setL.2 hv)
        refine ⟨j, hj, ?_⟩
        show (if 0 < ix (setL L) j then !decide (ix (setL L) j ∈ setL L) else decide (-ix (setL L) j ∈ setL L)) = true
        rw [e, if_neg (by omega)]
        exact decide_eq_true (mem_setL.2 hv2)
  rw [hcl] at hnb
  have hP : clauseP L = normC (fun v => byTo (setL L) (ones (setL L).length) v (setL L).length) ((keysOf (setL L)).filter fun v => byTo (setL L) (ones (setL L).length) v (setL L).length != 0) (1 - sumLK t (setL L) (ones (setL L).length) (setL L).length) := by
    unfold clauseP normP
    rw [if_neg (by simp [ones]; omega), if_neg (by
      rw [allR_true (fun j hj => by
        unfold pokAt
        rw [hl' _ (mem_ix_iff.2 ⟨j, hj, rfl⟩), ones_ix hj]; decide)]
      simp), hsum, hlow]
    congr 1; omega
  refine ⟨fun h => ?_, fun h => ?_, fun h h2 => ?_⟩
  · rw [hP]
    unfold normC
    rw [if_pos (by have := hnb.2.2 h; omega)]
  · subst h; rfl
  · have h0 : sumLK t (setL L) (ones (setL L).length) (setL L).length = 0 := by
      have : ¬ 1 ≤ sumLK t (setL L) (ones (setL L).length) (setL L).length := fun h' => h (hnb.2.1 h')
      omega
    have hby : ∀ v ∈ keysOf (setL L), byTo (setL L) (ones (setL L).length) v (setL L).length = if v ∈ setL L then 1 else -1 := fun v hv => by
      rw [byTo_set hnd (hkp v hv)]
      obtain ⟨l, hl2, e⟩ := mem_keys.1 hv
      by_cases h1 : v ∈ setL L
      · have : -v ∉ setL L := fun h3 => h ⟨v, mem_setL.1 h1, mem_setL.1 h3⟩
        simp [h1, this]
      · have : -v ∈ setL L := by
          rcases (show l = v ∨ l = -v by omega) with rfl | rfl
          · exact absurd hl2 h1
          · exact hl2
        simp [h1, this]
    have hfil : (keysOf (setL L)).filter (fun v => byTo (setL L) (ones (setL L).length) v (setL L).length != 0) = keysOf (setL L) := by
      rw [List.filter_eq_self]
      intro v hv
      rw [hby v hv]; split <;> rfl
    have hmin : ∀ v ∈ keysOf (setL L), minI (absI (byTo (setL L) (ones (setL L).length) v (setL L).length)) 1 = 1 := fun v hv => by
      rw [hby v hv]; split <;> rfl
    rw [hP, h0, hfil]
    unfold normC
    have hne : 1 ≤ (keysOf (setL L)).length := by
      obtain ⟨l, hl3⟩ := List.exists_mem_of_ne_nil L h2
      exact List.length_pos_of_mem (mem_keys.2 ⟨l, mem_setL.2 hl3, rfl⟩)
    have hsl : sumI (fun v => minI (absI (byTo (setL L) (ones (setL L).length) v (setL L).length)) 1) (keysOf (setL L)) = (keysOf (setL L)).length := by
      rw [sumI_congr (g := fun _ => 1) hmin]
      clear hne hmin hfil hby hP
      induction keysOf (setL L) with
      | nil => rfl
      | cons x l ih => simp only [sumI, ih, List.length_cons]; omega
    rw [if_neg (by omega), Int.sub_zero, hsl, if_neg (by omega), if_neg (by omega)]
    have e1 : (keysOf (setL L)).map (litOf fun v => byTo (setL L) (ones (setL L).length) v (setL L).length) = varsorted (setL L) := by
      unfold varsorted
      refine List.map_congr_left fun v hv => ?_
      show (if byTo (setL L) (ones (setL L).length) v (setL L).length < 0 then -v else v) = _
      rw [hby v hv]
      by_cases h1 : v ∈ setL L <;> simp [h1]
    have e2 : (keysOf (setL L)).map (fun v => minI (absI (byTo (setL L) (ones (setL L).length) v (setL L).length)) 1) = ones (keysOf (setL L)).length := by
      rw [List.map_congr_left (g := fun _ => 1) hmin]; exact List.map_const'
    rw [e1, e2]

theorem mem_varsorted {S : List Int} (hp : ∀ x ∈ S, x ≠ 0) (hc : ¬ clash S) {x : Int} : x ∈ varsorted S ↔ x ∈ S := by
  unfold varsorted
  rw [List.mem_map]
  constructor
  · rintro ⟨v, hv, rfl⟩
    obtain ⟨l, hl, e⟩ := mem_keys.1 hv
    split
    · assumption
    · rename_i h
      rcases (show l = v ∨ l = -v by omega) with rfl | rfl
      · exact absurd hl h
      · exact hl
  · intro hx
    refine ⟨(x.natAbs : Int), mem_keys.2 ⟨x, hx, rfl⟩, ?_⟩
    have h0 := hp x hx
    by_cases h : 0 < x
    · have e : (x.natAbs : Int) = x := by omega
      rw [e, if_pos hx]
    · have e : (x.natAbs : Int) = -x := by omega
      rw [e, if_neg (fun h2 => hc ⟨x, hx, h2⟩)]
      omega

theorem clauseP_ok {L : List Int} (hl : ∀ l ∈ L, plitB l = true) (hlen : (setL L).length ≤ 65536) : (clauseP L).2 = 0 := by
  obtain ⟨h1, h2, h3⟩ := clauseP_form hl hlen
  by_cases hc : clash L
  · rw [h1 hc]
  · by_cases he : L = []
    · rw [h2 he]
    · rw [h3 hc he]

theorem clash_set {L : List Int} : clash (setL L) ↔ clash L := by
  constructor
  · rintro ⟨v, h1, h2⟩; exact ⟨v, mem_setL.1 h1, mem_setL.1 h2⟩
  · rintro ⟨v, h1, h2⟩; exact ⟨v, mem_setL.2 h1, mem_setL.2 h2⟩

/-- The literals of a clause that is not trivial. -/
theorem clauseP_mem {L : List Int} (hl : ∀ l ∈ L, plitB l = true) (hlen : (setL L).length ≤ 65536) (hb : (clauseP L).1.bound = 1) : ∀ x, x ∈ (clauseP L).1.lits ↔ x ∈ L := by
  obtain ⟨h1, h2, h3⟩ := clauseP_form hl hlen
  intro x
  by_cases hc : clash L
  · rw [h1 hc] at hb; cases hb
  · by_cases he : L = []
    · rw [h2 he, he]
    · rw [h3 hc he]
      show x ∈ varsorted (setL L) ↔ _
      rw [mem_varsorted (fun y hy => by
        have := hl y (mem_setL.1 hy)
        unfold plitB at this
        rw [decide_eq_true_eq] at this
        exact this.1) (fun h => hc (clash_set.1 h)), mem_setL]

theorem clauseP_bound {L : List Int} (hl : ∀ l ∈ L, plitB l = true) (hlen : (setL L).length ≤ 65536) : ((clauseP L).1.bound = 1 ↔ ¬ clash L) ∧ (clash L → (clauseP L).1 = ⟨[], [], 0⟩) := by
  obtain ⟨h1, h2, h3⟩ := clauseP_form hl hlen
  refine ⟨?_, fun h => by rw [h1 h]⟩
  by_cases hc : clash L
  · rw [h1 hc]; simp [hc]
  · by_cases he : L = []
    · rw [h2 he]; simp [hc]
    · rw [h3 hc he]; simp [hc]

end Go.Proofs.YthclpkhaenaknaaGreatDoor

/- A region that draws its order, in the body of a range over a function: one walk serves every order. -/
namespace Go.Proofs.YthclpkhaenaknaaGreatDoor
open Go.RowKit

/-- No operation defers a call. -/
def noDefer (o : Oper) : Bool := match o.op with
  | .defer _ => false
  | _ => true

theorem noDefer_ne {o : Oper} (h : noDefer o = true) : ∀ c, o.op ≠ .defer c := by
  intro c e
  simp [noDefer, e] at h

section
variable {F : Fence} {n : Nat} {P : Program} {ops : Array Oper} {Q : Exit → Act → World → Prop}

theorem upon_inRound (r : Nat) {o : Oper} {a : Act} {next : Act → World → Prop} {x : Result Next} (h : o.uponIn F n P a next Q x) : o.uponIn (F.inRound r) n P a next Q x := by
  unfold Oper.uponIn at *
  split at h
  all_goals first | exact h | exact h.elim

theorem oper_inRound (r : Nat) (_hro : F.round = none) {o : Oper} (hd : noDefer o = true) {a : Act} {w : World} {next : Act → World → Prop} (h : o.wpIn F n P a w next Q) : o.wpIn (F.inRound r) n P a w next Q := by
  unfold Oper.wpIn at *
  refine ⟨h.1, ?_⟩
  have h2 := h.2
  rw [Oper.semAt_eq _ _ _ (noDefer_ne hd)] at h2
  rw [Oper.semAt_eq _ _ _ (noDefer_ne hd)]
  exact upon_inRound r h2

theorem ops_inRound (r : Nat) (hro : F.round = none) (hd : ops.all noDefer = true) : ∀ (l : List Nat) (a : Act) (w : World), wpOpsIn F n P ops Q l a w → wpOpsIn (F.inRound r) n P ops Q l a w
  | [], _, _, h => h
  | i :: rest, a, w, h => by
    simp only [wpOpsIn] at *
    cases ho : ops[i]? with
    | none =>
      simp only [ho] at h
      exact ops_inRound r hro hd rest a w h
    | some o =>
      simp only [ho] at h ⊢
      have hdo : noDefer o = true := by
        obtain ⟨hi, rfl⟩ := Array.getElem?_eq_some_iff.1 ho
        exact (Array.all_eq_true.1 hd) i hi
      split at h
      · rename_i hw
        rw [if_pos hw]
        exact oper_inRound r hro hdo (Oper.wpIn_mono (fun a w h => ops_inRound r hro hd rest a w h) h)
      · rename_i hw
        rw [if_neg hw]
        exact ⟨h.1, ops_inRound r hro hd rest _ _ h.2⟩

theorem quiet_wide {C : World → Prop} {K : Act → Prop} : ∀ (l : List Oper) (a : Act), wpQuiet P ops C K l a → wpQuietIn Fence.wide n P ops C K l a
  | [], _, h => h
  | o :: rest, a, h => by
    refine ⟨fun _ _ _ _ => trivial, ?_⟩
    simp only [wpQuiet] at h
    split
    · rename_i hw
      rw [if_pos hw] at h
      obtain ⟨v, h1, h2⟩ := h
      refine ⟨v, fun w hC => ?_, quiet_wide rest _ h2⟩
      have h3 := h1 w hC
      unfold Oper.quietAt at h3
      unfold Oper.quietAtIn
      cases hx : (execOp a.eval o).run P w with
      | halt s w' => rw [hx] at h3; exact h3.elim
      | ok x w' =>
        rw [hx] at h3
        cases x with
        | value u => exact h3
        | skip => exact h3
        | enter f args => exact ⟨h3.1, (fun e => by cases e), callsIn_wide.2 h3.2⟩
        | _ => exact h3.elim
    · rename_i hw
      rw [if_neg hw] at h
      exact quiet_wide rest _ h
end

theorem wp_region_extR {P : Program} {id n r : Nat} {Q : Exit → Act → World → Prop} {a : Act} {w : World} {l : List Oper} (hm : P.follows .mixedOrders = true) (hB : Region.lexB .any l.toArray = true) (hd : l.toArray.all noDefer = true)
    (h : wpQuiet P l.toArray (fun w' => ∃ e : Ext w, w' = e.world) (fun a' => ∀ w', (∃ e : Ext w, w' = e.world) → Q .normal a' w') l a) : (Code.region id l.toArray true).wpIn (Fence.wide.inRound r) n P Q a w := by
  refine wpIn_region_draw fun t => ops_inRound r rfl hd _ _ _ ?_
  simp only [Region.lexB, Bool.and_eq_true] at hB
  simp only [Region.schedule, hm, Bool.true_or, if_true]
  refine wpAnyIn_sound _ t _ a _ (wpAnyIn_of_quiet (F := Fence.wide) (n := n) (C := fun w' => ∃ e : Ext w, w' = e.world) (Q := fun a' => ∀ w', (∃ e : Ext w, w' = e.world) → Q .normal a' w') rfl (fun _ w' hw' h => h w' hw') _ _ _ _ ⟨⟨_, (Below.refl _ w).drew⟩, rfl⟩ ?_)
  have := wpAnyQIn_lex (F := Fence.wide) (n := n) (C := fun w' => ∃ e : Ext w, w' = e.world) (md := .any) hB.1 l.toArray.toList 0 (Array.replicate l.toArray.size false) a (by simp) (by simpa using hB.2) (by simpa using quiet_wide (n := n) _ _ h)
  simpa using this

end Go.Proofs.YthclpkhaenaknaaGreatDoor
