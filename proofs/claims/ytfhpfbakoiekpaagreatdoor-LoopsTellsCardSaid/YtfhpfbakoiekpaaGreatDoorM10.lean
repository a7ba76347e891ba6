/- My texts Nrm0, Cmpct, Shelf, SortI, Nrm1, Val, ApS, merged. -/
import Derived.Test.YtfhpfbakoiekpaaGreatDoorM08
import Derived.Test.YtfhpfbakoiekpaaGreatDoorM09
import Derived.Lib.SlicesCompact
import Derived.Shelf.Sort.Plain
import Derived.Shelf.Slices.CompactI
import Derived.Shelf.Slices.In.SortNone
import Derived.Shelf.Strconv.Itoa3
import Derived.Shelf.Strings.BuilderK
import Derived.Test.YtfhpfbakoiekpaaGreatDoorProg
import Derived.Test.YtfhpfbakoiekpaaGreatDoorM00
import Derived.Test.YtfhpfbakoiekpaaGreatDoorM04
import Derived.Sort.OwnSortedInts
import Derived.RangeFuncBox
import Derived.Maps.OwnIn
import Derived.Lib.RowBridge

/- pb.Norm: the map of the variables' coefficients; what its loops keep (plain). -/
namespace Go.Proofs.YtfhpfbakoiekpaaGreatDoor
open Go.RowKit

/-- The map behind the first i literals. -/
def mapK (L K : List Int) (i : Nat) : Int → Option Value := fun v => if v ∈ keysOf (L.take i) then some (.int .i64 (byTo L K v i)) else none

theorem mem_takeK {L : List Int} {i : Nat} {v : Int} (hi : i ≤ L.length) : v ∈ keysOf (L.take i) ↔ ∃ j, j < i ∧ ((ix L j).natAbs : Int) = v := by
  rw [mem_keys]
  constructor
  · rintro ⟨l, hl, e⟩
    obtain ⟨j, hj, rfl⟩ := List.mem_iff_getElem.1 hl
    simp only [List.length_take] at hj
    refine ⟨j, by omega, ?_⟩
    rw [ix_get (by omega)]
    simpa using e
  · rintro ⟨j, hj, e⟩
    refine ⟨ix L j, List.mem_iff_getElem.2 ⟨j, by simp; omega, ?_⟩, e⟩
    rw [ix_get (by omega)]
    simp

theorem byTo_notin {L K : List Int} {i : Nat} {v : Int} (hi : i ≤ L.length) (hv : 0 < v) (h : v ∉ keysOf (L.take i)) : byTo L K v i = 0 :=
  byTo_zero_of i fun j hj => by
    have h1 : ((ix L j).natAbs : Int) ≠ v := fun e => h ((mem_takeK hi).2 ⟨j, hj, e⟩)
    constructor <;> (intro e; rw [e] at h1; omega)

theorem mapK_getD {L K : List Int} {i : Nat} {v : Int} (hi : i ≤ L.length) (hv : 0 < v) : (mapK L K i v).getD (.int .i64 0) = .int .i64 (byTo L K v i) := by
  unfold mapK
  split
  · rfl
  · rename_i h; rw [byTo_notin hi hv h]; rfl

theorem mapK_zero (L K : List Int) : mapK L K 0 = fun _ => none := by funext v; simp [mapK, keysOf]

theorem keys_takePos {L : List Int} {i : Nat} {v : Int} (hi : i ≤ L.length) (hp : ∀ j, j < i → ix L j ≠ 0) (h : v ∈ keysOf (L.take i)) : 0 < v := by
  obtain ⟨j, hj, e⟩ := (mem_takeK hi).1 h
  have := hp j hj
  omega

theorem mapK_step {L K : List Int} {i : Nat} (hi : i < L.length) (hp : ∀ j, j < i + 1 → ix L j ≠ 0) {x : Int} (hx : ((ix L i).natAbs : Int) = x) {y : Int} (hy : y = byTo L K x (i + 1)) :
    upd (mapK L K i) x (some (.int .i64 y)) = mapK L K (i + 1) := by
  subst hy
  funext v
  unfold upd
  by_cases e : v = x
  · subst e
    rw [if_pos rfl]
    unfold mapK
    rw [if_pos ((mem_takeK (by omega)).2 ⟨i, by omega, hx⟩)]
  · rw [if_neg e]
    unfold mapK
    have hm : v ∈ keysOf (L.take (i + 1)) ↔ v ∈ keysOf (L.take i) := by
      rw [mem_takeK (by omega), mem_takeK (by omega)]
      constructor
      · rintro ⟨j, hj, e2⟩
        by_cases h : j = i
        · subst h; exact absurd (e2.symm.trans hx) e
        · exact ⟨j, by omega, e2⟩
      · rintro ⟨j, hj, e2⟩
        exact ⟨j, by omega, e2⟩
    by_cases h : v ∈ keysOf (L.take i)
    · rw [if_pos h, if_pos (hm.2 h), byTo_succ]
      have hv := keys_takePos (by omega) (fun j hj => hp j (by omega)) h
      rw [if_neg (by omega), if_neg (by omega)]
      simp
    · rw [if_neg h, if_neg (fun h2 => h (hm.1 h2))]

theorem byTo_at {L K : List Int} {i : Nat} {x : Int} (_h : ix L i ≠ 0) (hx : ((ix L i).natAbs : Int) = x) : byTo L K x (i + 1) = if ix L i < 0 then byTo L K x i - ix K i else byTo L K x i + ix K i := by
  rw [byTo_succ]
  by_cases h0 : ix L i < 0
  · rw [if_neg (by omega), if_pos (by omega), if_pos h0]; omega
  · rw [if_pos (by omega), if_neg h0]

theorem negTo_at {L K : List Int} {i : Nat} : negTo L K (i + 1) = if ix L i < 0 then negTo L K i + ix K i else negTo L K i := by
  show negTo L K i + (if ix L i < 0 then ix K i else 0) = _
  split <;> omega

theorem pok_at {L K : List Int} {i : Nat} (h : pokAt L K i = true) : ix L i ≠ 0 ∧ -65536 ≤ ix L i ∧ ix L i ≤ 65536 ∧ -16777216 ≤ ix K i ∧ ix K i ≤ 16777216 := by
  unfold pokAt plitB at h
  simp only [Bool.and_eq_true, decide_eq_true_eq] at h
  exact ⟨h.1.1, h.1.2.1, h.1.2.2, h.2⟩

theorem mapK_lookE {L K : List Int} {i : Nat} {w : World} {b : Nat} (h : MapIs (Value.int .i64) w b (mapK L K i)) (hi : i ≤ L.length) {x : Int} (hx : 0 < x) :
    (Instr.lookup 95 (.map (some b)) (.int .i64 x) false).run Tryz.prog w = .ok (.int .i64 (byTo L K x i)) w := by
  have := h.lookup kvInt Tryz.underlying95 Tryz.underlying3 (Tryz.zeroValue3 w) x
  rw [mapK_getD hi hx] at this
  exact this

/-! ### The range over the map -/
/-- ks: the keys met. -/
structure Met (L : List Int) (left : Int → Bool) (ks : List Int) : Prop where
  nodup : ks.Nodup
  mem : ∀ v, v ∈ ks ↔ v ∈ keysOf L ∧ left v = false

theorem Met.start (L K : List Int) : Met L (fun v => (mapK L K L.length v).isSome) [] := by
  refine ⟨List.nodup_nil, fun v => ?_⟩
  simp only [List.not_mem_nil, false_iff, not_and, Bool.not_eq_false]
  intro h
  unfold mapK
  rw [List.take_length, if_pos h]
  rfl

theorem Met.push {L : List Int} {left : Int → Bool} {ks : List Int} (h : Met L left ks) {v : Int} (hv : left v = true) (hm : v ∈ keysOf L) : Met L (fun x => left x && !decide (x = v)) (ks ++ [v]) := by
  refine ⟨List.nodup_append.2 ⟨h.nodup, by simp, fun a ha b hb => ?_⟩, fun x => ?_⟩
  · rw [List.mem_singleton] at hb
    subst hb
    rintro rfl
    have := ((h.mem a).1 ha).2
    rw [hv] at this; cases this
  · rw [List.mem_append, List.mem_singleton, h.mem x]
    by_cases e : x = v
    · subst e
      simp [hm]
    · simp [e]

theorem Met.perm {L : List Int} {left : Int → Bool} {ks : List Int} (h : Met L left ks) (h0 : ∀ v, left v = false) : ks.Perm (keysOf L) :=
  nodup_perm h.nodup (sorted_nodup (keys_sorted L)) fun x => by rw [h.mem x]; exact ⟨fun h => h.1, fun h2 => ⟨h2, h0 x⟩⟩

theorem mapK_some {L K : List Int} {v : Int} {u : Value} (h : mapK L K L.length v = some u) : v ∈ keysOf L ∧ u = .int .i64 (byTo L K v L.length) := by
  unfold mapK at h
  rw [List.take_length] at h
  split at h
  · rename_i h2; exact ⟨h2, (Option.some.inj h).symm⟩
  · cases h

theorem keys_len : ∀ L : List Int, (keysOf L).length ≤ L.length
  | [] => by simp [keysOf]
  | l :: L => by
    have ih := keys_len L
    have : ∀ (v : Int) (l : List Int), (insK v l).length ≤ l.length + 1 := fun v l => by
      induction l with
      | nil => simp [insK]
      | cons x l ih => unfold insK; split <;> (try split) <;> simp <;> omega
    have := this (l.natAbs : Int) (keysOf L)
    simp only [keysOf, List.length_cons]
    omega

theorem Met.len {L : List Int} {left : Int → Bool} {ks : List Int} (h : Met L left ks) : ks.length ≤ L.length := by
  have h1 : ks.Perm ((keysOf L).filter fun x => decide (x ∈ ks)) :=
    nodup_perm h.nodup ((sorted_nodup (keys_sorted L)).filter _) fun x => by
      rw [List.mem_filter, decide_eq_true_eq]
      exact ⟨fun hx => ⟨((h.mem x).1 hx).1, hx⟩, fun hx => hx.2⟩
  have h2 := h1.length_eq
  have h3 := keys_len L
  have h4 := List.length_filter_le (fun x => decide (x ∈ ks)) (keysOf L)
  omega

end Go.Proofs.YtfhpfbakoiekpaaGreatDoor

/- slices.Sort and slices.Compact of ints: the plain laws. -/
namespace Go.Proofs.YtfhpfbakoiekpaaGreatDoor
open Go.RowKit Go.Lib

theorem geti (l : List Int) {j : Nat} (hj : j < l.length) : l.toArray[j]! = l[j] := by
  rw [getElem!_pos l.toArray j (by simpa using hj)]
  simp

theorem compact_sorted {l : List Int} (hs : l.Pairwise (· ≤ ·)) : ∀ m, m ≤ l.length → (compactUpTo l.toArray m).Pairwise (· < ·) ∧ ∀ x, x ∈ compactUpTo l.toArray m ↔ ∃ j, j < m ∧ l.toArray[j]! = x
  | 0, _ => by simp [compactUpTo]
  | m + 1, hm => by
    obtain ⟨h1, h2⟩ := compact_sorted hs m (by omega)
    rw [List.pairwise_iff_getElem] at hs
    have hle : ∀ i j, i ≤ j → j < l.length → l.toArray[i]! ≤ l.toArray[j]! := fun i j hij hj => by
      rw [geti l hj, geti l (by omega)]
      by_cases e : i = j
      · subst e; exact Int.le_refl _
      · exact hs i j (by omega) hj (by omega)
    rw [compactUpTo_succ]
    by_cases hk : keeps l.toArray m = true
    · rw [if_pos hk]
      unfold keeps at hk
      simp only [decide_eq_true_eq] at hk
      refine ⟨List.pairwise_append.2 ⟨h1, List.pairwise_singleton _ _, fun x hx y hy => ?_⟩, fun x => ?_⟩
      · rw [List.mem_singleton] at hy
        subst hy
        obtain ⟨j, hj, rfl⟩ := (h2 x).1 hx
        have h3 := hle j (m - 1) (by omega) (by omega)
        have h4 := hle (m - 1) m (by omega) (by omega)
        rcases hk with hk | hk
        · omega
        · have : l.toArray[m - 1]! ≠ l.toArray[m]! := fun e => hk e.symm
          omega
      · rw [List.mem_append, h2 x, List.mem_singleton]
        constructor
        · rintro (⟨j, hj, e⟩ | e)
          · exact ⟨j, by omega, e⟩
          · exact ⟨m, by omega, e.symm⟩
        · rintro ⟨j, hj, e⟩
          by_cases h : j = m
          · subst h; exact .inr e.symm
          · exact .inl ⟨j, by omega, e⟩
    · rw [if_neg hk, List.append_nil]
      refine ⟨h1, fun x => ?_⟩
      rw [h2 x]
      unfold keeps at hk
      simp only [decide_eq_true_eq, not_or, ne_eq, Decidable.not_not] at hk
      constructor
      · rintro ⟨j, hj, e⟩
        exact ⟨j, by omega, e⟩
      · rintro ⟨j, hj, e⟩
        by_cases h : j = m
        · subst h; exact ⟨j - 1, by omega, hk.2.symm.trans e⟩
        · exact ⟨j, by omega, e⟩

theorem sortI_pairwise (l : List Int) : (l.mergeSort fun x y => decide (x ≤ y)).Pairwise (· ≤ ·) := by
  have := List.pairwise_mergeSort (le := fun x y : Int => decide (x ≤ y)) (fun a b c h1 h2 => by simp only [decide_eq_true_eq] at *; omega) (fun a b => by simp only [Bool.or_eq_true, decide_eq_true_eq]; omega) l
  exact this.imp fun h => by simpa using h

theorem sortI_mem (l : List Int) (x : Int) : x ∈ (l.mergeSort fun x y => decide (x ≤ y)) ↔ x ∈ l := (List.mergeSort_perm l _).mem_iff

/-- Sorted and without repetition: the set. -/
theorem compact_set (l : List Int) : compact (l.mergeSort fun x y => decide (x ≤ y)) = setL l := by
  have h := compact_sorted (sortI_pairwise l) _ (Nat.le_refl _)
  refine sorted_eqP h.1 (setL_sorted l) fun x => ?_
  rw [mem_setL, ← sortI_mem l x]
  have h2 := h.2 x
  unfold compact
  rw [h2]
  constructor
  · rintro ⟨j, hj, e⟩
    rw [geti _ hj] at e
    exact e ▸ List.getElem_mem hj
  · intro hx
    obtain ⟨j, hj, e⟩ := List.mem_iff_getElem.1 hx
    exact ⟨j, hj, by rw [geti _ hj]; exact e⟩

/-- A list without repetition, sorted. -/
theorem sortI_nodup {l s : List Int} (hn : l.Nodup) (hs : s.Pairwise (· < ·)) (h : ∀ x, x ∈ l ↔ x ∈ s) : (l.mergeSort fun x y => decide (x ≤ y)) = s := by
  refine sorted_eqP ?_ hs fun x => (sortI_mem l x).trans (h x)
  have h1 := sortI_pairwise l
  have h2 : (l.mergeSort fun x y => decide (x ≤ y)).Nodup := (List.mergeSort_perm l _).nodup_iff.2 hn
  exact (h1.and h2).imp fun h => by have := h.1; have := h.2; omega

theorem sortI_len (l : List Int) : (l.mergeSort fun x y => decide (x ≤ y)).length = l.length := List.length_mergeSort _

end Go.Proofs.YtfhpfbakoiekpaaGreatDoor

/- Library contracts at this program (printed by the kit's lay-shelf and lay-plain; wip/shelf.py). -/
namespace Go.Proofs.YtfhpfbakoiekpaaGreatDoor
open Go.Shelf
def Tryz.lays169_ren : Go.Shelf.Ren := ⟨fun | 169 => 75 | n => n, fun | 70 => 96 | 9 => 9 | 0 => 0 | 72 => 99 | 37 => 97 | 127 => 130 | 3 => 3 | 5 => 5 | n => n, fun | n => n⟩
theorem Tryz.lays169 : Go.Proofs.Lays.n169 Tryz.prog Tryz.lays169_ren := {
  mixed := by kernel_rfl
  f169 := Tryz.func75.trans (congrArg some (by kernel_rfl))
  t0 := Tryz.underlying0
  a0 := Tryz.isAgg0
  z0 := Tryz.sizeOf0
  v0 := Tryz.zeroValue0
  t3 := Tryz.underlying3
  a3 := Tryz.isAgg3
  z3 := Tryz.sizeOf3
  v3 := Tryz.zeroValue3
  t9 := Tryz.underlying9
  a9 := Tryz.isAgg9
  z9 := Tryz.sizeOf9
  v9 := Tryz.zeroValue9
  t37 := Tryz.underlying97
  a37 := Tryz.isAgg97
  z37 := Tryz.sizeOf97
  v37 := Tryz.zeroValue97
  t70 := Tryz.underlying96
  a70 := Tryz.isAgg96
  z70 := Tryz.sizeOf96
  v70 := Tryz.zeroValue96
  t72 := Tryz.underlying99
  a72 := Tryz.isAgg99
  z72 := Tryz.sizeOf99
  v72 := Tryz.zeroValue99
  t127 := Tryz.underlying130
  a127 := Tryz.isAgg130
  z127 := Tryz.sizeOf130
  v127 := Tryz.zeroValue130 }
theorem Tryz.Builder_Extra_169 : Builder.Extra Tryz.prog Tryz.lays169_ren := {
  sizeBuilder := by kernel_rfl
  liesBuilder := by kernel_rfl
  t5 := Tryz.underlying5
  a5 := Tryz.isAgg5
  z5 := Tryz.sizeOf5
  v5 := Tryz.zeroValue5
  infoByte := by kernel_rfl
  cellsByte := by kernel_rfl
  sizeByte := by kernel_rfl
  neB5 := by decide }
open Go.RowKit in
theorem Tryz.Builder_String_any_k (B b : Nat) (l : List UInt8) (w : World) (h : Lib.IsBuilderF 99 5 B b (Lib.byteCells l) w) (hBw : B ≤ w.heap.size) :
    Calls Tryz.prog 75 #[.pointer (some ⟨b, 0, none⟩)] w fun e w' => e = .returned (.string ⟨l.toArray⟩) ∧ (Lib.IsBuilderF 99 5 B b (Lib.byteCells l) w' ∧ Below B w w' ∧ Lib.OthersKept 5 (some b) w w') := Any.Builder_String_any_k Tryz.lays169 Tryz.Builder_Extra_169 B b l w h hBw
def Tryz.lays171_ren : Go.Shelf.Ren := ⟨fun | 171 => 73 | 243 => 116 | 246 => 146 | 283 => 166 | 284 => 167 | 285 => 168 | 286 => 169 | 129 => 164 | 317 => 180 | 318 => 181 | 319 => 182 | 320 => 183 | 337 => 187 | 338 => 188 | n => n, fun | 3 => 3 | 9 => 9 | 2 => 2 | 4 => 4 | 171 => 165 | 0 => 0 | 53 => 164 | 37 => 97 | 5 => 5 | 173 => 167 | 212 => 177 | 51 => 162 | 20 => 20 | 213 => 178 | 46 => 141 | 232 => 184 | 233 => 185 | n => n, fun | 17 => 1 | 18 => 2 | 19 => 3 | n => n⟩
theorem Tryz.lays171 : Go.Proofs.Lays.n171 Tryz.prog Tryz.lays171_ren := {
  mixed := by kernel_rfl
  f129 := Tryz.func164.trans (congrArg some (by kernel_rfl))
  f171 := Tryz.func73.trans (congrArg some (by kernel_rfl))
  f243 := Tryz.func116.trans (congrArg some (by kernel_rfl))
  f246 := Tryz.func146.trans (congrArg some (by kernel_rfl))
  f283 := Tryz.func166.trans (congrArg some (by kernel_rfl))
  f284 := Tryz.func167.trans (congrArg some (by kernel_rfl))
  f285 := Tryz.func168.trans (congrArg some (by kernel_rfl))
  f286 := Tryz.func169.trans (congrArg some (by kernel_rfl))
  f317 := Tryz.func180.trans (congrArg some (by kernel_rfl))
  f318 := Tryz.func181.trans (congrArg some (by kernel_rfl))
  f319 := Tryz.func182.trans (congrArg some (by kernel_rfl))
  f320 := Tryz.func183.trans (congrArg some (by kernel_rfl))
  f337 := Tryz.func187.trans (congrArg some (by kernel_rfl))
  f338 := Tryz.func188.trans (congrArg some (by kernel_rfl))
  t0 := Tryz.underlying0
  a0 := Tryz.isAgg0
  z0 := Tryz.sizeOf0
  v0 := Tryz.zeroValue0
  t2 := Tryz.underlying2
  a2 := Tryz.isAgg2
  z2 := Tryz.sizeOf2
  v2 := Tryz.zeroValue2
  t3 := Tryz.underlying3
  a3 := Tryz.isAgg3
  z3 := Tryz.sizeOf3
  v3 := Tryz.zeroValue3
  t4 := Tryz.underlying4
  a4 := Tryz.isAgg4
  z4 := Tryz.sizeOf4
  v4 := Tryz.zeroValue4
  t5 := Tryz.underlying5
  a5 := Tryz.isAgg5
  z5 := Tryz.sizeOf5
  v5 := Tryz.zeroValue5
  t9 := Tryz.underlying9
  a9 := Tryz.isAgg9
  z9 := Tryz.sizeOf9
  v9 := Tryz.zeroValue9
  t20 := Tryz.underlying20
  a20 := Tryz.isAgg20
  z20 := Tryz.sizeOf20
  v20 := Tryz.zeroValue20
  t37 := Tryz.underlying97
  a37 := Tryz.isAgg97
  z37 := Tryz.sizeOf97
  v37 := Tryz.zeroValue97
  t46 := Tryz.underlying141
  a46 := Tryz.isAgg141
  z46 := Tryz.sizeOf141
  v46 := Tryz.zeroValue141
  t51 := Tryz.underlying162
  a51 := Tryz.isAgg162
  z51 := Tryz.sizeOf162
  v51 := Tryz.zeroValue162
  t53 := Tryz.underlying164
  a53 := Tryz.isAgg164
  z53 := Tryz.sizeOf164
  v53 := Tryz.zeroValue164
  t171 := Tryz.underlying165
  a171 := Tryz.isAgg165
  z171 := Tryz.sizeOf165
  v171 := Tryz.zeroValue165
  t173 := Tryz.underlying167
  a173 := Tryz.isAgg167
  z173 := Tryz.sizeOf167
  v173 := Tryz.zeroValue167
  t212 := Tryz.underlying177
  a212 := Tryz.isAgg177
  z212 := Tryz.sizeOf177
  v212 := Tryz.zeroValue177
  t213 := Tryz.underlying178
  a213 := Tryz.isAgg178
  z213 := Tryz.sizeOf178
  t232 := Tryz.underlying184
  a232 := Tryz.isAgg184
  z232 := Tryz.sizeOf184
  v232 := Tryz.zeroValue184
  t233 := Tryz.underlying185
  a233 := Tryz.isAgg185
  z233 := Tryz.sizeOf185
  v233 := Tryz.zeroValue185
  g17 := by kernel_rfl
  g18 := by kernel_rfl
  g19 := by kernel_rfl }
open Go.RowKit Go.Sort Go.Lib in
theorem Tryz.strconv_Itoa_small (i : Nat) (hi : i < 100) (w : World) :
    Calls Tryz.prog 73 #[.int .i64 i] w fun e w' => e = .returned (.string ⟨(Lib.decDigits i).toArray⟩) ∧ w' = w := Any.strconv_Itoa_small Tryz.lays171 i hi w
def Tryz.lays189_ren : Go.Shelf.Ren := ⟨fun | 189 => 107 | 125 => 137 | 257 => 136 | 128 => 163 | 129 => 164 | 294 => 154 | 295 => 155 | 296 => 156 | 297 => 157 | 298 => 158 | 299 => 159 | 216 => 160 | 300 => 161 | 301 => 162 | 328 => 175 | 329 => 176 | 330 => 177 | 331 => 178 | 332 => 179 | 215 => 170 | 343 => 186 | n => n, fun | 28 => 23 | 3 => 3 | 46 => 141 | 0 => 0 | 51 => 162 | 53 => 164 | 4 => 4 | 183 => 155 | 182 => 154 | 131 => 159 | 5 => 5 | 9 => 9 | 218 => 170 | 222 => 174 | 228 => 181 | 229 => 182 | n => n, fun | n => n⟩
theorem Tryz.lays189 : Go.Proofs.Lays.n189 Tryz.prog Tryz.lays189_ren := {
  mixed := by kernel_rfl
  f125 := Tryz.func137.trans (congrArg some (by kernel_rfl))
  f128 := Tryz.func163.trans (congrArg some (by kernel_rfl))
  f129 := Tryz.func164.trans (congrArg some (by kernel_rfl))
  f189 := Tryz.func107.trans (congrArg some (by kernel_rfl))
  f215 := Tryz.func170.trans (congrArg some (by kernel_rfl))
  f216 := Tryz.func160.trans (congrArg some (by kernel_rfl))
  f257 := Tryz.func136.trans (congrArg some (by kernel_rfl))
  f294 := Tryz.func154.trans (congrArg some (by kernel_rfl))
  f295 := Tryz.func155.trans (congrArg some (by kernel_rfl))
  f296 := Tryz.func156.trans (congrArg some (by kernel_rfl))
  f297 := Tryz.func157.trans (congrArg some (by kernel_rfl))
  f298 := Tryz.func158.trans (congrArg some (by kernel_rfl))
  f299 := Tryz.func159.trans (congrArg some (by kernel_rfl))
  f300 := Tryz.func161.trans (congrArg some (by kernel_rfl))
  f301 := Tryz.func162.trans (congrArg some (by kernel_rfl))
  f328 := Tryz.func175.trans (congrArg some (by kernel_rfl))
  f329 := Tryz.func176.trans (congrArg some (by kernel_rfl))
  f330 := Tryz.func177.trans (congrArg some (by kernel_rfl))
  f331 := Tryz.func178.trans (congrArg some (by kernel_rfl))
  f332 := Tryz.func179.trans (congrArg some (by kernel_rfl))
  f343 := Tryz.func186.trans (congrArg some (by kernel_rfl))
  t0 := Tryz.underlying0
  a0 := Tryz.isAgg0
  z0 := Tryz.sizeOf0
  v0 := Tryz.zeroValue0
  t3 := Tryz.underlying3
  a3 := Tryz.isAgg3
  z3 := Tryz.sizeOf3
  v3 := Tryz.zeroValue3
  t4 := Tryz.underlying4
  a4 := Tryz.isAgg4
  z4 := Tryz.sizeOf4
  v4 := Tryz.zeroValue4
  t5 := Tryz.underlying5
  a5 := Tryz.isAgg5
  z5 := Tryz.sizeOf5
  v5 := Tryz.zeroValue5
  t9 := Tryz.underlying9
  a9 := Tryz.isAgg9
  z9 := Tryz.sizeOf9
  v9 := Tryz.zeroValue9
  t28 := Tryz.underlying23
  a28 := Tryz.isAgg23
  z28 := Tryz.sizeOf23
  v28 := Tryz.zeroValue23
  t46 := Tryz.underlying141
  a46 := Tryz.isAgg141
  z46 := Tryz.sizeOf141
  v46 := Tryz.zeroValue141
  t51 := Tryz.underlying162
  a51 := Tryz.isAgg162
  z51 := Tryz.sizeOf162
  v51 := Tryz.zeroValue162
  t53 := Tryz.underlying164
  a53 := Tryz.isAgg164
  z53 := Tryz.sizeOf164
  v53 := Tryz.zeroValue164
  t131 := Tryz.underlying159
  a131 := Tryz.isAgg159
  z131 := Tryz.sizeOf159
  v131 := Tryz.zeroValue159
  t182 := Tryz.underlying154
  a182 := Tryz.isAgg154
  z182 := Tryz.sizeOf154
  v182 := Tryz.zeroValue154
  t183 := Tryz.underlying155
  a183 := Tryz.isAgg155
  z183 := Tryz.sizeOf155
  v183 := Tryz.zeroValue155
  t218 := Tryz.underlying170
  a218 := Tryz.isAgg170
  z218 := Tryz.sizeOf170
  v218 := Tryz.zeroValue170
  t222 := Tryz.underlying174
  a222 := Tryz.isAgg174
  z222 := Tryz.sizeOf174
  v222 := Tryz.zeroValue174
  t228 := Tryz.underlying181
  a228 := Tryz.isAgg181
  z228 := Tryz.sizeOf181
  v228 := Tryz.zeroValue181
  t229 := Tryz.underlying182
  a229 := Tryz.isAgg182
  z229 := Tryz.sizeOf182
  v229 := Tryz.zeroValue182 }
open Go.Sort Go.RowKit in
theorem Tryz.slices_Sort_int (blk off cap : Nat) (zs : List Int) (w : World) (hH : Holds (Value.int .i64) w blk off zs.toArray) (hblk : blk < w.heap.size) (hsz : zs.length < 4611686018427387904) :
    Calls Tryz.prog 107 #[.slice (some ⟨blk, off, none⟩) zs.length cap] w fun e w' =>
      e = .returned (.tuple #[]) ∧ ∃ n os, w' = grow (putRow (Value.int .i64) (Sort.ahead w n) blk off (zs.mergeSort fun x y => decide (x ≤ y)).toArray) os := Any.slices_Sort_int Tryz.lays189 blk off cap zs w hH hblk hsz
def Tryz.laysNm220_ren : Go.Shelf.Ren := ⟨fun | 20 => 87 | n => n, fun | 22 => 23 | 3 => 3 | 4 => 4 | 0 => 0 | n => n, fun | n => n⟩
theorem Tryz.laysNm220 : Go.Proofs.Lays2.n20 Tryz.prog Tryz.laysNm220_ren := {
  mixed := by kernel_rfl
  f20 := Tryz.func87.trans (congrArg some (by kernel_rfl))
  t0 := Tryz.underlying0
  a0 := Tryz.isAgg0
  z0 := Tryz.sizeOf0
  v0 := Tryz.zeroValue0
  t3 := Tryz.underlying3
  a3 := Tryz.isAgg3
  z3 := Tryz.sizeOf3
  v3 := Tryz.zeroValue3
  t4 := Tryz.underlying4
  a4 := Tryz.isAgg4
  z4 := Tryz.sizeOf4
  v4 := Tryz.zeroValue4
  t22 := Tryz.underlying23
  a22 := Tryz.isAgg23
  z22 := Tryz.sizeOf23
  v22 := Tryz.zeroValue23
  i3 := by kernel_rfl }
open Go.RowKit Go.Lib Go.Sort in
theorem Tryz.slices_Compact_int (blk off cap : Nat) (zs : List Int) (w : World) (hH : Holds (Value.int .i64) w blk off zs.toArray) (hsz : zs.length ≤ 9223372036854775807) (hcap : zs.length ≤ cap) :
    Calls Tryz.prog 87 #[.slice (some ⟨blk, off, none⟩) zs.length cap] w fun e w' => e = .returned (.slice (some ⟨blk, off, none⟩) (Lib.compact zs).length cap) ∧ ∃ q, w' = putRow (Value.int .i64) (Sort.ahead w q) blk off (Lib.compact zs ++ List.replicate (zs.length - (Lib.compact zs).length) 0).toArray := Any.slices_Compact_int Tryz.laysNm220 blk off cap zs w hH hsz hcap
open Go.RowKit Go.Lib Go.Sort in
theorem Tryz.slices_Compact_int_empty (a : Option Addr) (cap : Nat) (w : World) :
    Calls Tryz.prog 87 #[.slice a 0 cap] w fun e w' => e = .returned (.slice a 0 cap) ∧ w' = w := Any.slices_Compact_int_empty Tryz.laysNm220 a cap w
open Go.RowKit Go.Sort in
theorem Tryz.slices_Sort_int_none (p : Option Addr) (cap : Nat) (w : World) :
    Calls Tryz.prog 107 #[.slice p 0 cap] w fun e w' => e = .returned (.tuple #[]) ∧ w' = w := Any.slices_Sort_int_none Tryz.lays189 p cap w
end Go.Proofs.YtfhpfbakoiekpaaGreatDoor

/- slices.Sort, slices.Compact at ints the call's own. -/
namespace Go.Proofs.YtfhpfbakoiekpaaGreatDoor
open Go.RowKit Go.Sort

theorem ix_map (l : List Int) : (List.range l.length).map (fun i => Value.int .i64 (ix l i)) = l.map (Value.int .i64) := by
  apply List.ext_getElem (by simp)
  intro i h1 h2
  simp only [List.length_map, List.length_range] at h1
  simp [ix, List.getD_eq_getElem?_getD, List.getElem?_eq_getElem h1]

theorem fits_mem {l s : List Int} (h : Fits l) (hm : ∀ x ∈ s, x ∈ l) : Fits s := fitI fun x hx => by
  obtain ⟨j, hj, e⟩ := List.mem_iff_getElem.1 (hm x hx)
  have := h j
  rw [ix_get hj, e] at this
  exact this

abbrev srt (l : List Int) : List Int := l.mergeSort fun x y => decide (x ≤ y)

theorem sortI_own {base : Nat} {w : World} {v : Value} {l : List Int} (h : OwnI base w v l) :
    Calls Tryz.prog 107 #[v] w fun e w' => e = .returned (.tuple #[]) ∧ OwnI base w' v (srt l) ∧ w.grownBy w' v.ownBlock := by
  have hfit : Fits (srt l) := fits_mem h.2 fun x hx => (sortI_mem l x).1 hx
  have hlen := sortI_len l
  have hb8 := h.1.2
  rcases h.1.1.2 with ⟨rfl, e⟩ | ⟨g, cap, cur, rfl, hb, hg, hn, hm, hs, hx⟩
  · have e0 : l = [] := List.eq_nil_of_length_eq_zero e
    subst e0
    refine (Tryz.slices_Sort_int_none none 0 w).mono ?_
    rintro e w' ⟨rfl, rfl⟩
    refine ⟨rfl, ?_, ⟨rfl, rfl, rfl, Nat.le_refl _, fun _ _ _ => rfl⟩⟩
    have e2 : srt [] = [] := by simp [srt]
    rw [e2]; exact h
  · rw [ix_map] at hx
    have hH := holds_of_blockI (ss := l) hg (by simpa using hx)
    have hc := Tryz.slices_Sort_int g 0 cap l w hH (Array.getElem?_eq_some_iff.1 hg).1 (by omega)
    refine hc.mono ?_
    rintro e w' ⟨rfl, n, os, rfl⟩
    refine ⟨rfl, ⟨⟨?_, by rw [hlen]; exact hb8⟩, hfit⟩, grownBy_sortedI _⟩
    have h2 := ownsRow_sortedI (n := n) (os := os) (base := base) (ts := srt l) hlen hb hg hn hm hs
    rw [ix_map, hlen]
    exact h2

end Go.Proofs.YtfhpfbakoiekpaaGreatDoor

/- pb.Norm: the first loop. -/
namespace Go.Proofs.YtfhpfbakoiekpaaGreatDoor
open Go.RowKit

/-- A constraint whose rows are the call's own. -/
def PBQ (base : Nat) (w : World) (v : Value) (c : PBC) : Prop := ∃ vl vk, v = .agg #[vl, vk, .int .i64 c.bound] ∧ QRow base w vl c.lits ∧ QRow base w vk c.coefs ∧ InI c.bound ∧ c.lits.length ≤ 65536 ∧ c.coefs.length ≤ 65536

theorem PBQ.is {base : Nat} {w : World} {v : Value} {c : PBC} (h : PBQ base w v c) : PBIs w v c :=
  let ⟨vl, vk, e, h1, h2, h3, h4, h5⟩ := h; ⟨vl, vk, e, h1.ints (by omega), h2.ints (by omega), h3⟩

theorem PBQ.below {base : Nat} {w w' : World} {v : Value} {c : PBC} (h : PBQ base w v c) (hb : Below w.heap.size w w') : PBQ base w' v c :=
  let ⟨vl, vk, e, h1, h2, h3⟩ := h; ⟨vl, vk, e, h1.below hb, h2.below hb, h3⟩

abbrev pbZ : List Value := [.slice none 0 0, .slice none 0 0, .int .i64 0]

structure N1St (L K : List Int) (w : World) (k : Nat) (wx : World) : Prop where
  map : MapIs (Value.int .i64) wx (w.heap.size + 1) (mapK L K k)
  below : Below w.heap.size w wx
  box : Blk wx w.heap.size pbZ 30
  ok : ∀ j, j < k → pokAt L K j = true

def N1Rel (L K : List Int) (B : Int) (w : World) (b i : Value) (wx : World) : Prop := ∃ k : Nat, k ≤ L.length ∧ i = .int .i64 k ∧ b = .int .i64 (B - negTo L K k) ∧ N1St L K w k wx

theorem N1St.put {L K : List Int} {w wr w7 : World} {k : Nat} {x y : Int} (h : N1St L K w k wr) (hk : k < L.length) (hp : pokAt L K k = true) (hx : ((ix L k).natAbs : Int) = x) (hy : y = byTo L K x (k + 1))
    (hm : MapIs (Value.int .i64) w7 (w.heap.size + 1) (upd (mapK L K k) x (some (.int .i64 y)))) (hg : wr.grownBy w7 (some (w.heap.size + 1))) : N1St L K w (k + 1) w7 := by
  have hok : ∀ j, j < k + 1 → pokAt L K j = true := fun j hj => by
    by_cases e : j = k
    · subst e; exact hp
    · exact h.ok j (by omega)
  rw [mapK_step hk (fun j hj => (pok_at (hok j hj)).1) hx hy] at hm
  refine ⟨hm, h.below.trans ⟨hg.os, hg.tape, hg.output, hg.size, fun i hi => hg.block i (by have := h.below.size; omega) (fun e => by have := Option.some.inj e; omega)⟩, h.box.same (hg.block _ h.box.lt (fun e => by have := Option.some.inj e; omega)), hok⟩

/-- The bounds of the numbers under way. -/
theorem by_small {L K : List Int} {v : Int} {i : Nat} (hi : i ≤ 65536) (h : ∀ j, j < i → pokAt L K j = true) : -1099511627776 ≤ byTo L K v i ∧ byTo L K v i ≤ 1099511627776 := by
  have h1 := byTo_bound (L := L) (K := K) (v := v) i (fun j hj => (pok_at (h j hj)).2.2.2)
  omega

theorem neg_small {L K : List Int} {i : Nat} (hi : i ≤ 65536) (h : ∀ j, j < i → pokAt L K j = true) : -1099511627776 ≤ negTo L K i ∧ negTo L K i ≤ 1099511627776 := by
  have h1 := negTo_bound (L := L) (K := K) i (fun j hj => (pok_at (h j hj)).2.2.2)
  omega

theorem pok_fail {L K : List Int} {B : Int} (h0 : ¬ (L.length ≠ K.length ∨ 65536 < L.length ∨ B < -1099511627776 ∨ 1099511627776 < B)) {k : Nat} (hk : k < L.length) (h : pokAt L K k = false) : normP L K B = (⟨[], [], 0⟩, 2) := by
  unfold normP
  rw [if_neg h0, if_pos (allR_false k hk h)]

theorem pok_all {L K : List Int} {B : Int} (h0 : ¬ (L.length ≠ K.length ∨ 65536 < L.length ∨ B < -1099511627776 ∨ 1099511627776 < B)) (h : ∀ k, k < L.length → pokAt L K k = true) :
    normP L K B = normC (fun v => byTo L K v L.length) ((keysOf L).filter fun v => byTo L K v L.length != 0) (B - negTo L K L.length - sumI (fun v => lowI (byTo L K v L.length)) (keysOf L)) := by
  unfold normP
  rw [if_neg h0, if_neg (by rw [allR_true h]; exact Bool.false_ne_true ∘ Eq.symm)]

section
variable {κ : Type} {kv : κ → Value} {P : Program} {w : World} {ops : Array Oper} {rest : List Oper} {o : Oper} {a : Act} {Q : Exit → Act → World → Prop}

theorem wpList_mnext0 [DecidableEq κ] (g : κ → Option Value) (b r : Nat) (left : κ → Bool) (hinj : ∀ a c, kv a = kv c → a = c)
    (hg : o.guard = none) (it : Operand) (hop : o.op = Op.next it false) (hit : a.eval it = .pointer (some ⟨r, 0, none⟩)) (h : RangeIs kv w b r g left 0)
    (hDone : (∀ k, left k = false) → wpList P ops Q rest (a.put o.dst (.tuple #[.bool false])) w) : wpList P ops Q (o :: rest) a w :=
  wpList_mnext g b r left 0 hinj hg it hop hit h (fun _ => hDone) (fun _ _ _ _ _ _ _ hlt => absurd hlt (Nat.not_lt_zero _))

theorem wpList_mnext1 [DecidableEq κ] (g : κ → Option Value) (b r : Nat) (left : κ → Bool) (cnt : Nat) (hc : cnt ≠ 0) (hinj : ∀ a c, kv a = kv c → a = c)
    (hg : o.guard = none) (it : Operand) (hop : o.op = Op.next it false) (hit : a.eval it = .pointer (some ⟨r, 0, none⟩)) (h : RangeIs kv w b r g left cnt)
    (hMore : ∀ k v w' cnt', left k = true → g k = some v → RangeIs kv w' b r g (fun x => left x && !decide (x = k)) cnt' → cnt' < cnt → w.grownBy w' (some r) → w'.heap.size = w.heap.size →
      (Instr.entry (.pointer (some ⟨r, 0, none⟩))).run P w' = .ok (.tuple #[kv k, v]) w' → wpList P ops Q rest (a.put o.dst (.tuple #[.bool true, kv k, v])) w') : wpList P ops Q (o :: rest) a w :=
  wpList_mnext g b r left cnt hinj hg it hop hit h (fun h0 => absurd h0 hc) hMore
end

theorem kvI_inj : ∀ a c : Int, Value.int .i64 a = Value.int .i64 c → a = c := fun _ _ h => by injection h

theorem below3 {n : Nat} {w wr : World} (h : Below n w wr) (b : Nat) (hb : n ≤ b) (x y z : Value) : Below n w (((wr.setCell ⟨b, 0, none⟩ x).setCell ⟨b, 1, none⟩ y).setCell ⟨b, 2, none⟩ z) :=
  ((h.setCell (p := ⟨b, 0, none⟩) hb _).setCell (p := ⟨b, 1, none⟩) hb _).setCell (p := ⟨b, 2, none⟩) hb _

theorem row3 {base : Nat} {wr : World} {v : Value} {l : List Int} (h : QRow base wr v l) (b : Nat) (hb : b < base) (x y z : Value) : QRow base (((wr.setCell ⟨b, 0, none⟩ x).setCell ⟨b, 1, none⟩ y).setCell ⟨b, 2, none⟩ z) v l :=
  h.kept fun i h1 _ _ => ((Below.heap_setCell _ _ _ _ (by show i ≠ b; omega)).trans (Below.heap_setCell _ _ _ _ (by show i ≠ b; omega))).trans (Below.heap_setCell _ _ _ _ (by show i ≠ b; omega))

/-! ### The second loop -/
/-- Those of the keys met that have a coefficient. -/
def flK (L K : List Int) (ks : List Int) : List Int := ks.filter fun v => byTo L K v L.length != 0
def lowS (L K : List Int) (ks : List Int) : Int := sumI (fun v => lowI (byTo L K v L.length)) ks

theorem flK_snoc (L K : List Int) (ks : List Int) (v : Int) : flK L K (ks ++ [v]) = if byTo L K v L.length = 0 then flK L K ks else flK L K ks ++ [v] := by
  unfold flK
  rw [List.filter_append]
  by_cases h : byTo L K v L.length = 0 <;> simp [h]
theorem lowS_snoc (L K : List Int) (ks : List Int) (v : Int) : lowS L K (ks ++ [v]) = if byTo L K v L.length < 0 then lowS L K ks + byTo L K v L.length else lowS L K ks := by
  unfold lowS
  rw [sumI_snoc]
  unfold lowI
  split <;> omega

structure N2W (L K : List Int) (w : World) (R0 : Nat) (left : Int → Bool) (cnt : Nat) (v12 : Value) (l : List Int) (wx : World) : Prop where
  rng : RangeIs (Value.int .i64) wx (w.heap.size + 1) R0 (mapK L K L.length) left cnt
  row : wx.ownsRow (R0 + 1) 3 1 v12 l.length (l.map (Value.int .i64))
  below : Below w.heap.size w wx
  box : Blk wx w.heap.size pbZ 30
  lt : w.heap.size + 1 < R0

def N2Rel (L K : List Int) (B : Int) (w : World) (R0 : Nat) (b v12 : Value) (wx : World) : Prop :=
  ∃ left cnt ks, Met L left ks ∧ b = .int .i64 (B - negTo L K L.length - lowS L K ks) ∧ N2W L K w R0 left cnt v12 (flK L K ks) wx

section
variable {L K : List Int} {w wr w1 w4 : World} {R0 : Nat} {left : Int → Bool} {cnt : Nat} {v12 : Value} {l : List Int}

theorem N2W.step (h : N2W L K w R0 left cnt v12 l wr) {left' : Int → Bool} {cnt' : Nat} (hr : RangeIs (Value.int .i64) w1 (w.heap.size + 1) R0 (mapK L K L.length) left' cnt') (hg : wr.grownBy w1 (some R0)) : N2W L K w R0 left' cnt' v12 l w1 := by
  refine ⟨hr, ?_, h.below.trans ⟨hg.os, hg.tape, hg.output, hg.size, fun i hi => hg.block i (by have := h.below.size; omega) (fun e => by have := h.lt; have := Option.some.inj e; omega)⟩, h.box.same (hg.block _ h.box.lt (fun e => by have := h.lt; have := Option.some.inj e; omega)), h.lt⟩
  refine h.row.kept hg ?_
  rcases h.row.2 with ⟨e2, _⟩ | ⟨g', cap, cur, e2, hb, _⟩
  · rw [e2]; exact .inl rfl
  · rw [e2]; refine .inr fun e => ?_
    have : g' = R0 := Option.some.inj e
    omega

theorem N2W.form (h : N2W L K w R0 left cnt v12 l wr) : ∃ a n c, v12 = .slice a n c := by
  rcases h.row.2 with ⟨e2, _⟩ | ⟨g', cap, cur, e2, hb, _⟩ <;> exact ⟨_, _, _, e2⟩

theorem N2W.own (h : N2W L K w R0 left cnt v12 l w1) : ∀ g, v12.ownBlock = some g → R0 + 1 ≤ g := fun g e => by
  rcases h.row.2 with ⟨e2, _⟩ | ⟨g', cap, cur, e2, hb, _⟩
  · rw [e2] at e; cases e
  · rw [e2] at e
    simp only [Value.ownBlock, Option.some.injEq] at e
    omega

theorem N2W.sorted (h : N2W L K w R0 left cnt v12 l w1) (hg : w1.grownBy w4 v12.ownBlock) : MapIs (Value.int .i64) w4 (w.heap.size + 1) (mapK L K L.length) ∧ Below w.heap.size w w4 ∧ Blk w4 w.heap.size pbZ 30 ∧ w.heap.size + 1 < w4.heap.size := by
  have hown := h.own
  have hlt := h.rng.lt
  have hl := h.lt
  have hsz := hg.size
  exact ⟨h.rng.map.same (hg.block _ h.rng.map.lt (fun e => by have := hown _ e.symm; omega)), h.below.grown hg h.below.size (fun k e => by have := hown _ e; omega), h.box.same (hg.block _ h.box.lt (fun e => by have := hown _ e.symm; omega)), by omega⟩

theorem N2W.push (h : N2W L K w R0 left cnt v12 l w1) {o : Obj} {x : Int} {v4 : Value} (hg : (w1.alloc o).grownBy w4 v12.ownBlock) (hrow : w4.ownsRow (R0 + 1) 3 1 v4 (l.length + 1) (l.map (Value.int .i64) ++ [.int .i64 x])) : N2W L K w R0 left cnt v4 (l ++ [x]) w4 := by
  have hal := bal (Below.refl w1.heap.size w1) o
  have hz : (w1.alloc o).heap.size = w1.heap.size + 1 := World.size_alloc ..
  have hown : ∀ g, v12.ownBlock = some g → R0 + 1 ≤ g := fun g e => by
    rcases h.row.2 with ⟨e2, _⟩ | ⟨g', cap, cur, e2, hb, _⟩
    · rw [e2] at e; cases e
    · rw [e2] at e
      simp only [Value.ownBlock, Option.some.injEq] at e
      omega
  have hlt := h.rng.lt
  have hsz := h.below.size
  have hl := h.lt
  have hrng : RangeIs (Value.int .i64) w4 (w.heap.size + 1) R0 (mapK L K L.length) left cnt := (h.rng.alloc o).grown hg (fun e => by have := hown _ e.symm; omega) (fun e => by have := hown _ e.symm; omega)
  refine ⟨hrng, ?_, (h.below.trans (hal.mono hsz)).grown hg (by omega) (fun k e => by have := hown _ e; omega), (h.box.alloc o).same (hg.block _ (h.box.alloc o).lt (fun e => by have := hown _ e.symm; omega)), h.lt⟩
  rw [List.length_append, List.map_append]
  exact hrow
end

/-! ### The third loop -/
def litsTo (L K V : List Int) (k : Nat) : List Int := (V.take k).map (litOf fun v => byTo L K v L.length)
def coefTo (L K V : List Int) (bd : Int) (k : Nat) : List Int := (V.take k).map fun v => minI (absI (byTo L K v L.length)) bd
def sumN (L K V : List Int) (bd : Int) (k : Nat) : Int := sumI (fun v => minI (absI (byTo L K v L.length)) bd) (V.take k)

theorem take_ixN (V : List Int) (k : Nat) (hk : k < V.length) : V.take (k + 1) = V.take k ++ [ix V k] := by
  rw [List.take_add_one, List.getElem?_eq_getElem hk]
  simp [ix, List.getD_eq_getElem?_getD, List.getElem?_eq_getElem hk]

theorem litsTo_succ {L K V : List Int} {k : Nat} (hk : k < V.length) : litsTo L K V (k + 1) = litsTo L K V k ++ [litOf (fun v => byTo L K v L.length) (ix V k)] := by simp [litsTo, take_ixN V k hk]
theorem coefTo_succ {L K V : List Int} {bd : Int} {k : Nat} (hk : k < V.length) : coefTo L K V bd (k + 1) = coefTo L K V bd k ++ [minI (absI (byTo L K (ix V k) L.length)) bd] := by simp [coefTo, take_ixN V k hk]
theorem sumN_succ {L K V : List Int} {bd : Int} {k : Nat} (hk : k < V.length) : sumN L K V bd (k + 1) = sumN L K V bd k + minI (absI (byTo L K (ix V k) L.length)) bd := by simp [sumN, take_ixN V k hk, sumI_snoc]

/-- W3: the world behind the sort; out lies in the block behind it. -/
structure N3St (L K V : List Int) (w W3 : World) (bd : Int) (k : Nat) (vl vk : Value) (wx : World) : Prop where
  up : Below W3.heap.size W3 wx
  out : Blk wx W3.heap.size [vl, vk, .int .i64 bd] 30
  rl : QRow (W3.heap.size + 1) wx vl (litsTo L K V k)
  rk : QRow (W3.heap.size + 1) wx vk (coefTo L K V bd k)
  far : Far vl vk

def N3Rel (L K V : List Int) (w W3 : World) (bd : Int) (s i : Value) (wx : World) : Prop :=
  ∃ (k : Nat) (vl vk : Value), k ≤ V.length ∧ i = .int .i64 k ∧ s = .int .i64 (sumN L K V bd k) ∧ N3St L K V w W3 bd k vl vk wx

theorem N3St.start (L K V : List Int) (w W3 : World) (bd : Int) : N3St L K V w W3 bd 0 (.slice none 0 0) (.slice none 0 0) (W3.alloc (.cells #[.slice none 0 0, .slice none 0 0, .int .i64 bd] 30)) :=
  ⟨bal (Below.refl _ _) _, Blk.new W3 [.slice none 0 0, .slice none 0 0, .int .i64 bd] _, QRow.nil _ _, QRow.nil _ _, fun g e => by cases e⟩

theorem N3St.step {L K V : List Int} {w W3 wr w' : World} {k : Nat} {bd : Int} {vl vk vl' vk' : Value} (h : N3St L K V w W3 bd k vl vk wr) (hk : k < V.length) (hb : Below W3.heap.size wr w')
    (ho : Blk w' W3.heap.size [vl', vk', .int .i64 bd] 30) (h1 : QRow (W3.heap.size + 1) w' vl' (litsTo L K V k ++ [litOf (fun v => byTo L K v L.length) (ix V k)])) (h2 : QRow (W3.heap.size + 1) w' vk' (coefTo L K V bd k ++ [minI (absI (byTo L K (ix V k) L.length)) bd])) (hf : Far vl' vk') :
    N3St L K V w W3 bd (k + 1) vl' vk' w' :=
  ⟨h.up.trans hb, ho, by rw [litsTo_succ hk]; exact h1, by rw [coefTo_succ hk]; exact h2, hf⟩

theorem sumN_small {L K V : List Int} {bd : Int} (hb : 0 < bd) (hy : ∀ v, -1099511627776 ≤ byTo L K v L.length ∧ byTo L K v L.length ≤ 1099511627776) : ∀ k : Nat, k ≤ V.length → 0 ≤ sumN L K V bd k ∧ sumN L K V bd k ≤ 1099511627776 * k
  | 0, _ => by simp [sumN, sumI]
  | k + 1, h => by
    have ih := sumN_small (L := L) (K := K) (V := V) hb hy k (by omega)
    rw [sumN_succ (by omega)]
    have h0 := hy (ix V k)
    have h1 : 0 ≤ minI (absI (byTo L K (ix V k) L.length)) bd ∧ minI (absI (byTo L K (ix V k) L.length)) bd ≤ 1099511627776 := by
      unfold minI absI
      split <;> split <;> omega
    omega

theorem lowS_small {L K : List Int} (hy : ∀ v, -1099511627776 ≤ byTo L K v L.length ∧ byTo L K v L.length ≤ 1099511627776) (ks : List Int) : -(1099511627776 * (ks.length : Int)) ≤ lowS L K ks ∧ lowS L K ks ≤ 0 := by
  unfold lowS
  induction ks with
  | nil => simp [sumI]
  | cons v ks ih =>
    have h := hy v
    have h1 : -1099511627776 ≤ lowI (byTo L K v L.length) ∧ lowI (byTo L K v L.length) ≤ 0 := by unfold lowI; split <;> omega
    simp only [sumI, List.length_cons]
    omega

end Go.Proofs.YtfhpfbakoiekpaaGreatDoor

/- slices.Values: its iterator's contract. -/
namespace Go.Proofs.YtfhpfbakoiekpaaGreatDoor
open Go.RowKit Go.Shelf
attribute [local go_sem] Oper.semAt_some

/-- An element of the list. -/
abbrev EV (l : List Int) := { x : Int // x ∈ l }
def evs {l : List Int} (xs : List (EV l)) : List Int := xs.map (·.1)
theorem evs_snoc {l : List Int} (xs : List (EV l)) (x : EV l) : evs (xs ++ [x]) = evs xs ++ [x.1] := by simp [evs]
theorem evs_len {l : List Int} (xs : List (EV l)) : (evs xs).length = xs.length := by simp [evs]

theorem values_any (a : Option Addr) (n c : Nat) (w : World) :
    Calls Tryz.prog 89 #[.slice a n c] w fun e w' => e = .returned (.func (.func 121) #[] #[.pointer (some ⟨w.heap.size, 0, none⟩)]) ∧ Below w.heap.size w w' ∧ Blk w' w.heap.size [.slice a n c] 23 ∧ w'.heap.size = w.heap.size + 1 := by
  have HB : Hid (Below w.heap.size w (w.alloc (.cells #[.slice a n c] 23))) := Lib.hid (bal (Below.refl _ _) _)
  have HK := Lib.hid (Blk.new w [.slice a n c] 23)
  go_enter Tryz.func89, Tryz.ntmps89
  go_wp2
  go_ret
  exact ⟨rfl, HB.out, HK.out, by simp⟩

def ValRel (l : List Int) (n0 : Nat) (W0 : World) (J : List (EV l) → World → Prop) (i : Value) (wr : World) : Prop :=
  ∃ (k : Nat) (pre : List (EV l)), k ≤ l.length ∧ i = .int .i64 k ∧ evs pre = l.take k ∧ J pre wr ∧ Below n0 W0 wr

theorem take_ixV (l : List Int) (k : Nat) (hk : k < l.length) : l.take (k + 1) = l.take k ++ [ix l k] := by
  rw [List.take_add_one, List.getElem?_eq_getElem hk]
  simp [ix, List.getD_eq_getElem?_getD, List.getElem?_eq_getElem hk]

set_option maxHeartbeats 4000000 in
set_option maxRecDepth 100000 in
theorem vals_stops (l : List Int) (wi w0 : World) (v : Value) (n0 cb : Nat) (hI : Ints wi v l) (hb : Below wi.heap.size wi w0) (hcb : Blk w0 cb [v] 23) (_h1 : cb < n0) (h2 : wi.heap.size ≤ n0) (_h3 : n0 ≤ w0.heap.size) (n : Nat) (hn : 1 ≤ n) :
    SeqStopsK Fence.wide n Tryz.prog 121 #[.pointer (some ⟨cb, 0, none⟩)] (fun x : EV l => #[.int .i64 x.1]) (Below n0)
      (fun xs => evs xs = l) (fun _ => True) l.length w0 := by
  intro lp J Jx W hW hJ hJx hY h0
  obtain ⟨a1, c1, rfl, -, hl1, -, hcell1⟩ := hI.form
  have HC1 := Lib.hid hcell1
  have HY := Lib.hid hY
  have HJ := Lib.hid hJ
  have HJX := Lib.hid hJx
  have H0 := Lib.hid h0
  have HBW : Hid (Below wi.heap.size wi W) := Lib.hid (hb.trans (hW.mono hb.size))
  have HCB := Lib.hid (hcb.below hW)
  have kp := HCB.out.cell
  have hzW := hW.size
  have hzb := hb.size
  clear hY hJ hJx h0 hW hcell1 hb hcb hI
  refine callsIn_of_wp Tryz.func121 rfl trivial ?_ rfl
  simp only [Tryz.ntmps121, List.size_toArray, List.length_cons, List.length_nil, Nat.reduceAdd, Nat.reduceSub, Array.replicate_succ, Array.replicate_zero, List.push_toArray, List.append_toArray, List.nil_append, List.cons_append]
  gi_wp2
  clear kp
  gi_loopw [7] (fun i wr => ValRel l n0 W J i wr) (fun i _ => l.length - (intOf i).toNat)
  case atStart => exact ⟨0, [], Nat.zero_le _, rfl, by simp [evs], H0.out, Below.refl _ _⟩
  case round =>
    obtain ⟨k, pre, hk, rfl, hpre, hj, hlim⟩ := hrel
    have HJR := Lib.hid hj
    have HPRE := Lib.hid hpre
    have HLIM := Lib.hid hlim
    clear hj hpre hlim
    by_cases hlt : k < l.length
    · obtain ⟨b1, o1, rfl, hb1, hc1⟩ := HC1.out (by omega)
      have k1 := ((cell_of_same (o := o1 + k) (HLIM.out.block b1 (by omega))).trans (bcell HBW.out _ _ hb1)).trans (hc1 k hlt)
      have HLN : Hid (pre.length < l.length) := Lib.hid (by
        have h1 := congrArg List.length HPRE.out
        rw [evs_len, List.length_take] at h1
        omega)
      have HM : Hid (ix l k ∈ l) := Lib.hid (ix_mem hlt)
      have HZ := Lib.hid (take_ixV l k hlt)
      clear hc1
      obtain ⟨fn, tmps, assign, body, hy, hR⟩ := HY.out pre ⟨_, HM.out⟩ wr HJR.out HLN.out
      dsimp only at hy
      gi_wp2_with (refine hR.mono ?_; rintro e W3 h3; obtain ⟨bb, rfl, hbt, hbf⟩ := yieldEnd2 h3; have HBT := Lib.hid hbt; have HBF := Lib.hid hbf; clear hbt hbf h3)
      case roundEnd =>
        obtain rfl : bb = true := by simpa using ‹(!bb) = false›
        exact ⟨⟨k + 1, pre ++ [_], hlt, by go_num, by rw [evs_snoc, HPRE.out, HZ.out], (HBT.out (by first | exact rfl | exact trivial)).1, HLIM.out.trans (HBT.out (by first | exact rfl | exact trivial)).2⟩, by simp [intOf]; omega⟩
      obtain rfl : bb = false := by simpa using ‹(!bb) = true›
      refine bodyPost_ret (results_none rfl _ _ _) rfl ?_
      exact ⟨⟨_, rfl⟩, .inr ⟨pre ++ [_], trivial, HBF.out (by first | exact rfl | exact trivial)⟩⟩
    · gi_wp2
      go_end0
      obtain rfl : k = l.length := by omega
      exact ⟨⟨_, rfl⟩, .inl ⟨pre, by rw [HPRE.out, List.take_length], HJR.out⟩⟩

end Go.Proofs.YtfhpfbakoiekpaaGreatDoor

/- slices.AppendSeq, Collect, Sorted over slices.Values, at ints; slices.Compact. -/
namespace Go.Proofs.YtfhpfbakoiekpaaGreatDoor
open Go.RowKit Go.Shelf Go.Sort
attribute [local go_sem] Oper.semAt_some

theorem own_of_row {base : Nat} {w : World} {v : Value} {l : List Int} (h : w.ownsRow base 3 1 v l.length (l.map (Value.int .i64))) (h8 : l.length * 8 ≤ 140737488351232) (hf : Fits l) : OwnI base w v l := by
  refine ⟨⟨?_, h8⟩, hf⟩
  rw [ix_map]
  exact h

set_option maxHeartbeats 4000000 in
set_option maxRecDepth 100000 in
theorem appSeq_any (l : List Int) (wi w : World) (v : Value) (cb : Nat) (hI : Ints wi v l) (hb : Below wi.heap.size wi w) (hcb : Blk w cb [v] 23) :
    Calls Tryz.prog 147 #[.slice none 0 0, .func (.func 121) #[] #[.pointer (some ⟨cb, 0, none⟩)]] w fun e w' => ∃ vo, e = .returned vo ∧ OwnI w.heap.size w' vo l ∧ Below w.heap.size w w' := by
  obtain ⟨i0, hi, hz0, hz1, hz2⟩ := info_parts infoI
  have h8 : l.length * 8 ≤ 140737488351232 := by obtain ⟨⟨_, _, _, _, _, h, _⟩, _⟩ := hI; exact h
  have hfit := hI.2
  have HFIT := Lib.hid hfit
  have hcl := hcb.lt
  have bO := Boxed.new w 23 (.slice none 0 0)
  have hB0 : Below w.heap.size w (w.alloc (.cells #[.slice none 0 0] 23)) := bal (Below.refl _ _) _
  have hzb := hb.size
  refine (callsIn_wide (n := 6)).1 ?_
  refine callsIn_of_wp_marks Tryz.func147 rfl trivial ?_ rfl
  simp only [Tryz.ntmps147, List.size_toArray, List.length_cons, List.length_nil, Nat.reduceAdd, Nat.reduceSub, Array.replicate_succ, Array.replicate_zero, List.push_toArray, List.append_toArray, List.nil_append, List.cons_append]
  gi_wp2
  refine wpIn_rangeFunc_ownG rfl (by omega) (gf := 121) (lb := #[.pointer (some ⟨cb, 0, none⟩)]) rfl trivial (enters_of Tryz.func121 (by kernel_rfl) rfl)
    (vals_stops l wi _ v w.heap.size cb hI (bon hb hB0) (hcb.below hB0) hcl hzb (by simp) 5 (by omega)) belowK_t (belowK_b (by simp)) (Below.refl _ _) (fun _ => rfl)
    (fun pre W => (∃ v, Boxed W w.heap.size 23 v ∧ W.ownsRow w.heap.size 3 1 v pre.length ((evs pre).map (Value.int .i64)) ∧ True) ∧ Below w.heap.size w W)
    (fun _ _ _ => False)
    (OwnFrom.and (Own.from (holdsRow_own w.heap.size w.heap.size 23 3 1 (fun pre : List (EV l) => pre.length) (fun pre => (evs pre).map (Value.int .i64)) (fun _ _ => True)) _) (ownFrom_below (Nat.le_refl _) (by simp)))
    (fun _ _ _ _ _ hs _ _ => hs)
    ⟨⟨_, bO, World.ownsRow_nil _ _ _ _, trivial⟩, hB0⟩
    (fun x => { tmps := #[.slice none 0 0, .func (.func 121) #[] #[.pointer (some ⟨cb, 0, none⟩)], .pointer (some ⟨w.heap.size, 0, none⟩), undef, .slice none 0 0, .int .i64 x.1, .func (.func 121) #[] #[.pointer (some ⟨cb, 0, none⟩)], .int .i64 x.1, undef, undef, undef, undef, undef], defers := [] }) ?assign ?body ?done ?stop
  case assign =>
    intro lp x W K hK
    gi_wp2
    exact hK
  case body =>
    rintro lp pre x W ⟨⟨v1, hv, hrow, -⟩, hB⟩ hlt
    have hc := hv.cell
    gi_wp2_with (gi_at_builtin; refine wpListIn_append_own _ rfl _ _ 23 rfl w.heap.size 3 i0 (.int .i64 0) 1 8 Tryz.underlying23 hi hz0 hz1 hz2 rfl (by decide) _ _ _ rfl (hrow.alloc _) ⟨W.heap.size, 0, none⟩ 1 1 [.int .i64 x.1] rfl rfl (cell_one_new _ _ _) (by simp [Value.oneCell']) (by unfold maxLen; omega) (by omega) (by have := hB.size; simp; omega) ?_; intro v' w1 hown' hgrow _; obtain ⟨g', cap', rfl⟩ := ownsRow_succ hown'; obtain ⟨hv1, hv2, hr2, hk2, hb2⟩ := hv.appended (by decide) hrow hB.size (Nat.le_refl _) hown' hgrow; have hc1 := hv1.cell; have hf1 := hv1.frozen)
    exact ⟨hk2.from _, hb2, ⟨_, hv2, by rw [evs_snoc]; simpa using hr2, trivial⟩, hB.trans hb2⟩
  case done =>
    rintro D ys W hD hys ⟨⟨v1, hv, hrow, -⟩, hB⟩ hK
    have hc := hv.cell
    gi_wp2
    refine ⟨by simp, .inl ⟨_, _, rfl, run_takeDeferred hK, ?_⟩⟩
    refine ⟨_, results_tmp rfl _ _ _, v1, rfl, own_of_row ?_ h8 HFIT.out, hB.trans (belowK_b (w := w) (Nat.le_refl _) W D _ _ (by simp at hD; omega) hK rfl rfl)⟩
    have h1 := ownsRow_putObj hrow (.deferred none) hK rfl
    rw [show ys.length = l.length by rw [← evs_len, hys], hys] at h1
    exact h1
  case stop =>
    rintro D c pre W _ _ h _
    exact h.elim

theorem collect_any (l : List Int) (wi w : World) (v : Value) (cb : Nat) (hI : Ints wi v l) (hb : Below wi.heap.size wi w) (hcb : Blk w cb [v] 23) :
    Calls Tryz.prog 120 #[.func (.func 121) #[] #[.pointer (some ⟨cb, 0, none⟩)]] w fun e w' => ∃ vo, e = .returned vo ∧ OwnI w.heap.size w' vo l ∧ Below w.heap.size w w' := by
  have HA := Lib.hid (appSeq_any l wi w v cb hI hb hcb)
  clear hI hb hcb
  go_enter Tryz.func120, Tryz.ntmps120
  go_wp2_with (go_at_call 147; (with_reducible refine (HA.out).mono ?_); rintro e w1 ⟨vo, rfl, ho, hb1⟩)
  go_ret
  exact ⟨vo, rfl, ho, hb1⟩

theorem sorted_any (l : List Int) (wi w : World) (v : Value) (cb : Nat) (hI : Ints wi v l) (hb : Below wi.heap.size wi w) (hcb : Blk w cb [v] 23) :
    Calls Tryz.prog 88 #[.func (.func 121) #[] #[.pointer (some ⟨cb, 0, none⟩)]] w fun e w' => ∃ vo, e = .returned vo ∧ OwnI w.heap.size w' vo (srt l) ∧ Below w.heap.size w w' := by
  have HA := Lib.hid (collect_any l wi w v cb hI hb hcb)
  clear hI hb hcb
  go_enter Tryz.func88, Tryz.ntmps88
  go_wp2_with (first
    | (go_at_call 107; (with_reducible refine (sortI_own HO.out).mono ?_); rintro e w2 ⟨rfl, ho2, hg2⟩)
    | (go_at_call 120; (with_reducible refine (HA.out).mono ?_); rintro e w1 ⟨vo, rfl, ho, hb1⟩; have HO := Lib.hid ho; obtain ⟨av, nv, rfl⟩ := ho.1.form; have HB1 := Lib.hid hb1; clear ho hb1))
  go_ret
  refine ⟨_, rfl, ho2, HB1.out.grown hg2 HB1.out.size (fun k ek => ?_)⟩
  rcases HO.out.1.1.2 with ⟨e, _⟩ | ⟨g, cap, cur, e, hbase, _⟩
  · rw [e] at ek; cases ek
  · rw [e] at ek
    simp only [Value.ownBlock, Option.some.injEq] at ek
    omega

theorem compact_mem {l : List Int} {x : Int} (h : x ∈ Lib.compact l) : x ∈ l := by
  unfold Lib.compact Lib.compactUpTo at h
  obtain ⟨j, hj, rfl⟩ := List.mem_map.1 h
  have h1 := List.mem_range.1 (List.mem_filter.1 hj).1
  show l.toArray[j]! ∈ l
  rw [geti l h1]
  exact List.getElem_mem h1

theorem grow_nil (w : World) : grow w #[] = w := by cases w; simp [grow]

theorem compactI_own {base : Nat} {w : World} {v : Value} {l : List Int} (h : OwnI base w v l) :
    Calls Tryz.prog 87 #[v] w fun e w' => ∃ a c, e = .returned (.slice a (Lib.compact l).length c) ∧ Ints w' (.slice a (Lib.compact l).length c) (Lib.compact l) ∧ w.grownBy w' v.ownBlock := by
  have hb8 := h.1.2
  have hfit : Fits (Lib.compact l) := fits_mem h.2 fun x hx => compact_mem hx
  rcases h.1.1.2 with ⟨rfl, e⟩ | ⟨g, cap, cur, rfl, hb, hg, hn, hm, hs, hx⟩
  · have e0 : l = [] := List.eq_nil_of_length_eq_zero e
    subst e0
    refine (Tryz.slices_Compact_int_empty none 0 w).mono ?_
    rintro e w' ⟨rfl, rfl⟩
    exact ⟨none, 0, rfl, nil_ints _, ⟨rfl, rfl, rfl, Nat.le_refl _, fun _ _ _ => rfl⟩⟩
  · rw [ix_map] at hx
    have hH := holds_of_blockI (ss := l) hg (by simpa using hx)
    have hc := Tryz.slices_Compact_int g 0 cap l w hH (by omega) hn
    refine hc.mono ?_
    rintro e w' ⟨rfl, q, rfl⟩
    have hle := Lib.compact_length_le l
    obtain ⟨ts, hts⟩ : ∃ ts, ts = Lib.compact l ++ List.replicate (l.length - (Lib.compact l).length) 0 := ⟨_, rfl⟩
    rw [← hts]
    have hl : ts.length = l.length := by rw [hts]; simp; omega
    have ew : putRow (Value.int .i64) (Sort.ahead w q) g 0 ts.toArray = grow (putRow (Value.int .i64) (Sort.ahead w q) g 0 ts.toArray) #[] := (grow_nil _).symm
    have h2 := ownsRow_sortedI (n := q) (os := #[]) (base := base) (ts := ts) hl hb hg hn hm hs
    have h3 := grownBy_sortedI (w := w) (g := g) (n := q) (os := #[]) ts.toArray
    rw [← ew] at h2 h3
    have hgl := (Array.getElem?_eq_some_iff.1 hg).1
    have hcap : (Lib.compact l).length ≤ cap := by omega
    refine ⟨_, _, rfl, ⟨⟨_, cap, rfl, hcap, hm, by omega, fun _ => ⟨g, 0, rfl, ?_, fun i hi => ?_⟩⟩, hfit⟩, h3⟩
    · have := h3.size
      omega
    · have h4 := h2.cellAt i (by omega)
      rw [Nat.zero_add, h4]
      simp only [List.getElem?_map]
      rw [hts, List.getElem?_append_left hi, List.getElem?_eq_getElem hi]
      simp [ix, List.getD_eq_getElem?_getD, List.getElem?_eq_getElem hi]

end Go.Proofs.YtfhpfbakoiekpaaGreatDoor
