/- My texts Range, Nrm0, Cmpct, SortI, PermJ, NrmR, Nrm1, merged. -/
import Derived.Test.YtfhpfbakoiekpaaGreatDoorM00
import Derived.Maps.RangeWalk
import Derived.Test.YtfhpfbakoiekpaaGreatDoorM04
import Derived.Test.YtfhpfbakoiekpaaGreatDoorM08
import Derived.Lib.SlicesCompact
import Derived.Test.YtfhpfbakoiekpaaGreatDoorM07
import Derived.Sort.OwnSortedInts
import Derived.Shelf.Sort.Plain
import Derived.Shelf.Slices.CompactI
import Derived.Shelf.Slices.In.SortNone
import Derived.Test.YtfhpfbakoiekpaaGreatDoorM02

/- 'for k, v := range m' over a map that is known as a function (MapIs): what is left to come, and the step. -/
namespace Go.Proofs.YtfhpfbakoiekpaaGreatDoor
open Go.RowKit Go.MapKept
open Go.ChangeMaps (setBlock)

/-- The map in block b holds g; block r is an iterator over it; left says which keys are still to come; cnt: how many. -/
def RangeIs {κ : Type} (kv : κ → Value) (w : World) (b r : Nat) (g : κ → Option Value) (left : κ → Bool) (cnt : Nat) : Prop :=
  ∃ es clock since seen c0, w.heap[b]? = some (.map es clock) ∧ Stamped es clock ∧ (∀ x ∈ es.toList, ∃ k, x.key = kv k) ∧ (∀ k v, g k = some v ↔ ∃ x ∈ es.toList, x.key = kv k ∧ x.val = v) ∧
    w.heap[r]? = some (.mapIter (some b) since seen c0) ∧ (∀ x ∈ es.toList, x.born < since) ∧ (leftOf es seen).size = cnt ∧
    (∀ x ∈ es.toList, ∀ k, x.key = kv k → left k = !seen.contains x.born) ∧ (∀ k, left k = true → ∃ v, g k = some v) ∧ since ≤ c0 ∧ since ≤ clock

section
variable {κ : Type} {kv : κ → Value} {P : Program} {w : World} {b r cnt : Nat} {g : κ → Option Value} {left : κ → Bool} {t kt et : TypeId}

theorem RangeIs.map (h : RangeIs kv w b r g left cnt) : MapIs kv w b g := by
  obtain ⟨es, clock, since, seen, c0, hb, hs, hk, hg, _⟩ := h
  exact ⟨es, clock, hb, hs, hk, hg⟩

theorem RangeIs.lt (h : RangeIs kv w b r g left cnt) : r < w.heap.size := by
  obtain ⟨es, clock, since, seen, c0, _, _, _, _, hr, _⟩ := h
  exact (Array.getElem?_eq_some_iff.1 hr).1

theorem RangeIs.same {w' : World} (h : RangeIs kv w b r g left cnt) (hb : w'.heap[b]? = w.heap[b]?) (hr : w'.heap[r]? = w.heap[r]?) : RangeIs kv w' b r g left cnt := by
  obtain ⟨es, clock, since, seen, c0, h1, h2, h3, h4, h5, rest⟩ := h
  exact ⟨es, clock, since, seen, c0, hb.trans h1, h2, h3, h4, hr.trans h5, rest⟩

theorem RangeIs.grown {w' : World} {row : Option Nat} (h : RangeIs kv w b r g left cnt) (hg : w.grownBy w' row) (hb : some b ≠ row) (hr : some r ≠ row) : RangeIs kv w' b r g left cnt :=
  h.same (hg.block b h.map.lt hb) (hg.block r h.lt hr)

theorem RangeIs.alloc (h : RangeIs kv w b r g left cnt) (o : Obj) : RangeIs kv (w.alloc o) b r g left cnt := h.same (Below.heap_alloc _ _ _ h.map.lt) (Below.heap_alloc _ _ _ h.lt)

theorem RangeIs.left_eq (h : RangeIs kv w b r g left cnt) : w.rangeLeft b r = cnt := by
  obtain ⟨es, clock, since, seen, c0, hb, _, _, _, hr, _, hc, _⟩ := h
  simp only [World.rangeLeft, hb, hr]
  exact hc

theorem MapIs.range (h : MapIs kv w b g) (ht : P.underlying t = some (.map kt et)) :
    ∃ w' cnt, (Instr.range t (.map (some b))).run P w = .ok (.pointer (some ⟨w.heap.size, 0, none⟩)) w' ∧ RangeIs kv w' b w.heap.size g (fun k => (g k).isSome) cnt ∧ w.grownBy w' none ∧ w'.heap.size = w.heap.size + 1 := by
  have hlt := h.lt
  obtain ⟨es, clock, hb, hs, hk, hg⟩ := h
  have hst := (stamped_iff es clock).1 hs
  refine ⟨_, _, run_range_map w t kt et b es clock ht hb, ⟨es, clock, clock, #[], clock, ((MapKept.heap_alloc w _).2 b hlt).trans hb, hs, hk, hg, (MapKept.heap_alloc w _).1, hst.1, rfl, ?_, ?_, Nat.le_refl _, Nat.le_refl _⟩, World.grownBy_alloc w _ none, by simp⟩
  · intro x hx k e
    have : g k = some x.val := (hg k _).2 ⟨x, hx, e, rfl⟩
    simp [this]
  · intro k hk'
    exact Option.isSome_iff_exists.1 hk'

/-- The step. -/
theorem RangeIs.next [DecidableEq κ] (h : RangeIs kv w b r g left cnt) (hinj : ∀ a c, kv a = kv c → a = c) (ty : TypeId) :
    (cnt = 0 ∧ (∀ k, left k = false) ∧ (Instr.next (.pointer (some ⟨r, 0, none⟩)) false ty).run P w = .ok (.tuple #[.bool false]) w) ∨
    ∃ k v w' cnt', left k = true ∧ g k = some v ∧ (Instr.next (.pointer (some ⟨r, 0, none⟩)) false ty).run P w = .ok (.tuple #[.bool true, kv k, v]) w' ∧
      RangeIs kv w' b r g (fun x => left x && !decide (x = k)) cnt' ∧ cnt' < cnt ∧ w.grownBy w' (some r) ∧ w'.heap.size = w.heap.size ∧ (Instr.entry (.pointer (some ⟨r, 0, none⟩))).run P w' = .ok (.tuple #[kv k, v]) w' := by
  obtain ⟨es, clock, since, seen, c0, hb, hs, hks, hg, hr, hold, rfl, hl1, hl2, hsc, hsk⟩ := h
  have hne : r ≠ b := by rintro rfl; rw [hb] at hr; cases hr
  have hst := (stamped_iff es clock).1 hs
  rcases run_next_at (P := P) w ty r b since c0 seen es clock hr hb hold hsc with ⟨h0, hrun⟩ | ⟨e, he, w1, hal, hrun⟩
  · refine Or.inl ⟨h0, fun k => ?_, hrun⟩
    cases hk : left k
    · rfl
    · obtain ⟨v, hv⟩ := hl2 k hk
      obtain ⟨x, hx, e, -⟩ := (hg k v).1 hv
      rw [hl1 x hx k e, all_seen es seen h0 x hx] at hk
      cases hk
  · obtain ⟨hem, hes⟩ := mem_left he
    obtain ⟨k, hk⟩ := hks e hem
    have hr1 : w1.heap[r]? = some (.mapIter (some b) since seen c0) := by rcases hal with rfl | rfl <;> exact hr
    have hb1 : w1.heap[b]? = some (.map es clock) := by rcases hal with rfl | rfl <;> exact hb
    have hset := heap_set (o' := .mapIter (some b) since (seen.push e.born) clock) hr1
    have hb' : (setBlock w1 r (.mapIter (some b) since (seen.push e.born) clock)).heap[b]? = some (.map es clock) := (hset.2 b (fun e1 => hne e1.symm)).trans hb1
    rw [hk] at hrun
    refine Or.inr ⟨k, e.val, _, _, by rw [hl1 e hem k hk, hes]; rfl, (hg k _).2 ⟨e, hem, hk, rfl⟩, hrun,
      ⟨es, clock, since, seen.push e.born, clock, hb', hs, hks, hg, hset.1, hold, rfl, fun x hx k' hk' => ?_, fun k' h' => hl2 k' (by simp at h'; exact h'.1), hsk, hsk⟩, left_shrinks es seen e he, ?_, ?_, ?_⟩
    · show (left k' && !decide (k' = k)) = _
      rw [hl1 x hx k' hk', contains_push]
      by_cases hxe : x.born = e.born
      · obtain rfl := born_inj hst.2.1 hx hem hxe
        have : k' = k := hinj _ _ (hk'.symm.trans hk)
        subst this
        simp
      · have : k' ≠ k := fun e2 => by
          subst e2
          have e3 := entry_eq_of_key hst.2.2 hx hem (hk'.trans hk.symm)
          exact hxe (by rw [e3])
        simp [this, hxe]
    · rcases hal with rfl | rfl <;> exact ⟨rfl, rfl, rfl, by simp [setBlock], fun i _ hi => hset.2 i (fun e1 => hi (by rw [e1]))⟩
    · rcases hal with rfl | rfl <;> simp [setBlock]
    · have := run_entry_at (P := P) _ r b since seen es clock e hset.1 hb' hem hst.2.1
      rw [hk] at this
      exact this
end

section
variable {κ : Type} {kv : κ → Value} {P : Program} {w : World} {ops : Array Oper} {rest : List Oper} {o : Oper} {a : Act} {Q : Exit → Act → World → Prop}

theorem wpList_mrange (g : κ → Option Value) (b : Nat) (t kt et : TypeId) (ht : P.underlying t = some (.map kt et))
    (hg : o.guard = none) (m : Operand) (hop : o.op = Op.range t m) (hm : a.eval m = .map (some b)) (h : MapIs kv w b g)
    (hK : ∀ w' cnt, RangeIs kv w' b w.heap.size g (fun k => (g k).isSome) cnt → w.grownBy w' none → w'.heap.size = w.heap.size + 1 → wpList P ops Q rest (a.put o.dst (.pointer (some ⟨w.heap.size, 0, none⟩))) w') : wpList P ops Q (o :: rest) a w := by
  refine wpList_plain hg fun K' hK' => ?_
  obtain ⟨w', cnt, hrun, r1, r2, r3⟩ := h.range ht
  unfold Oper.wp
  simp [execOp, hop, hm, hrun, Result.andThen]
  exact hK' _ _ (hK w' cnt r1 r2 r3)

theorem wpList_mnext [DecidableEq κ] (g : κ → Option Value) (b r : Nat) (left : κ → Bool) (cnt : Nat) (hinj : ∀ a c, kv a = kv c → a = c)
    (hg : o.guard = none) (it : Operand) (hop : o.op = Op.next it false) (hit : a.eval it = .pointer (some ⟨r, 0, none⟩)) (h : RangeIs kv w b r g left cnt)
    (hDone : cnt = 0 → (∀ k, left k = false) → wpList P ops Q rest (a.put o.dst (.tuple #[.bool false])) w)
    (hMore : ∀ k v w' cnt', left k = true → g k = some v → RangeIs kv w' b r g (fun x => left x && !decide (x = k)) cnt' → cnt' < cnt → w.grownBy w' (some r) → w'.heap.size = w.heap.size →
      (Instr.entry (.pointer (some ⟨r, 0, none⟩))).run P w' = .ok (.tuple #[kv k, v]) w' → wpList P ops Q rest (a.put o.dst (.tuple #[.bool true, kv k, v])) w') : wpList P ops Q (o :: rest) a w := by
  refine wpList_plain hg fun K' hK' => ?_
  unfold Oper.wp
  rcases h.next (P := P) hinj o.type with ⟨h0, hl, hrun⟩ | ⟨k, v, w', cnt', hl, hv, hrun, hrg, hlt, hgr, hsz, hen⟩
  · simp [execOp, hop, hit, hrun, Result.andThen]
    exact hK' _ _ (hDone h0 hl)
  · simp [execOp, hop, hit, hrun, Result.andThen]
    exact hK' _ _ (hMore k v w' cnt' hl hv hrg hlt hgr hsz hen)
end

end Go.Proofs.YtfhpfbakoiekpaaGreatDoor

/- pb.Norm: the map of the variables' coefficients; what its loops keep (plain). -/
namespace Go.Proofs.YtfhpfbakoiekpaaGreatDoor
open Go.RowKit

/-- The map behind the first i literals. -/
def mapK (L K : List Int) (i : Nat) : Int → Option Value := fun v => if v ∈ keysOf (L.take i) then some (.int .i64 (byTo L K v i)) else none

theorem mem_takeK {L : List Int} {i : Nat} {v : Int} (hi : i ≤ L.length) : v ∈ keysOf (L.take i) ↔ ∃ j, j < i ∧ ((ix L j).natAbs : Int) = v := by
  rw [mem_keys]
  constructor
  · rintro ⟨l, hl, e⟩
    obtain ⟨j, hj, rfl⟩ := List.mem_iff_getElem.1 hl
    simp only [List.length_take] at hj
    refine ⟨j, by omega, ?_⟩
    rw [ix_get (by omega)]
    simpa using e
  · rintro ⟨j, hj, e⟩
    refine ⟨ix L j, List.mem_iff_getElem.2 ⟨j, by simp; omega, ?_⟩, e⟩
    rw [ix_get (by omega)]
    simp

theorem byTo_notin {L K : List Int} {i : Nat} {v : Int} (hi : i ≤ L.length) (hv : 0 < v) (h : v ∉ keysOf (L.take i)) : byTo L K v i = 0 :=
  byTo_zero_of i fun j hj => by
    have h1 : ((ix L j).natAbs : Int) ≠ v := fun e => h ((mem_takeK hi).2 ⟨j, hj, e⟩)
    constructor <;> (intro e; rw [e] at h1; omega)

theorem mapK_getD {L K : List Int} {i : Nat} {v : Int} (hi : i ≤ L.length) (hv : 0 < v) : (mapK L K i v).getD (.int .i64 0) = .int .i64 (byTo L K v i) := by
  unfold mapK
  split
  · rfl
  · rename_i h; rw [byTo_notin hi hv h]; rfl

theorem mapK_zero (L K : List Int) : mapK L K 0 = fun _ => none := by funext v; simp [mapK, keysOf]

theorem keys_takePos {L : List Int} {i : Nat} {v : Int} (hi : i ≤ L.length) (hp : ∀ j, j < i → ix L j ≠ 0) (h : v ∈ keysOf (L.take i)) : 0 < v := by
  obtain ⟨j, hj, e⟩ := (mem_takeK hi).1 h
  have := hp j hj
  omega

theorem mapK_step {L K : List Int} {i : Nat} (hi : i < L.length) (hp : ∀ j, j < i + 1 → ix L j ≠ 0) {x : Int} (hx : ((ix L i).natAbs : Int) = x) {y : Int} (hy : y = byTo L K x (i + 1)) :
    upd (mapK L K i) x (some (.int .i64 y)) = mapK L K (i + 1) := by
  subst hy
  funext v
  unfold upd
  by_cases e : v = x
  · subst e
    rw [if_pos rfl]
    unfold mapK
    rw [if_pos ((mem_takeK (by omega)).2 ⟨i, by omega, hx⟩)]
  · rw [if_neg e]
    unfold mapK
    have hm : v ∈ keysOf (L.take (i + 1)) ↔ v ∈ keysOf (L.take i) := by
      rw [mem_takeK (by omega), mem_takeK (by omega)]
      constructor
      · rintro ⟨j, hj, e2⟩
        by_cases h : j = i
        · subst h; exact absurd (e2.symm.trans hx) e
        · exact ⟨j, by omega, e2⟩
      · rintro ⟨j, hj, e2⟩
        exact ⟨j, by omega, e2⟩
    by_cases h : v ∈ keysOf (L.take i)
    · rw [if_pos h, if_pos (hm.2 h), byTo_succ]
      have hv := keys_takePos (by omega) (fun j hj => hp j (by omega)) h
      rw [if_neg (by omega), if_neg (by omega)]
      simp
    · rw [if_neg h, if_neg (fun h2 => h (hm.1 h2))]

theorem byTo_at {L K : List Int} {i : Nat} {x : Int} (_h : ix L i ≠ 0) (hx : ((ix L i).natAbs : Int) = x) : byTo L K x (i + 1) = if ix L i < 0 then byTo L K x i - ix K i else byTo L K x i + ix K i := by
  rw [byTo_succ]
  by_cases h0 : ix L i < 0
  · rw [if_neg (by omega), if_pos (by omega), if_pos h0]; omega
  · rw [if_pos (by omega), if_neg h0]

theorem negTo_at {L K : List Int} {i : Nat} : negTo L K (i + 1) = if ix L i < 0 then negTo L K i + ix K i else negTo L K i := by
  show negTo L K i + (if ix L i < 0 then ix K i else 0) = _
  split <;> omega

theorem pok_at {L K : List Int} {i : Nat} (h : pokAt L K i = true) : ix L i ≠ 0 ∧ -65536 ≤ ix L i ∧ ix L i ≤ 65536 ∧ -16777216 ≤ ix K i ∧ ix K i ≤ 16777216 := by
  unfold pokAt plitB at h
  simp only [Bool.and_eq_true, decide_eq_true_eq] at h
  exact ⟨h.1.1, h.1.2.1, h.1.2.2, h.2⟩

theorem mapK_lookE {L K : List Int} {i : Nat} {w : World} {b : Nat} (h : MapIs (Value.int .i64) w b (mapK L K i)) (hi : i ≤ L.length) {x : Int} (hx : 0 < x) :
    (Instr.lookup 95 (.map (some b)) (.int .i64 x) false).run Tryz.prog w = .ok (.int .i64 (byTo L K x i)) w := by
  have := h.lookup kvInt Tryz.underlying95 Tryz.underlying3 (Tryz.zeroValue3 w) x
  rw [mapK_getD hi hx] at this
  exact this

/-! ### The range over the map -/
/-- ks: the keys met. -/
structure Met (L : List Int) (left : Int → Bool) (ks : List Int) : Prop where
  nodup : ks.Nodup
  mem : ∀ v, v ∈ ks ↔ v ∈ keysOf L ∧ left v = false

theorem Met.start (L K : List Int) : Met L (fun v => (mapK L K L.length v).isSome) [] := by
  refine ⟨List.nodup_nil, fun v => ?_⟩
  simp only [List.not_mem_nil, false_iff, not_and, Bool.not_eq_false]
  intro h
  unfold mapK
  rw [List.take_length, if_pos h]
  rfl

theorem Met.push {L : List Int} {left : Int → Bool} {ks : List Int} (h : Met L left ks) {v : Int} (hv : left v = true) (hm : v ∈ keysOf L) : Met L (fun x => left x && !decide (x = v)) (ks ++ [v]) := by
  refine ⟨List.nodup_append.2 ⟨h.nodup, by simp, fun a ha b hb => ?_⟩, fun x => ?_⟩
  · rw [List.mem_singleton] at hb
    subst hb
    rintro rfl
    have := ((h.mem a).1 ha).2
    rw [hv] at this; cases this
  · rw [List.mem_append, List.mem_singleton, h.mem x]
    by_cases e : x = v
    · subst e
      simp [hm]
    · simp [e]

theorem Met.perm {L : List Int} {left : Int → Bool} {ks : List Int} (h : Met L left ks) (h0 : ∀ v, left v = false) : ks.Perm (keysOf L) :=
  nodup_perm h.nodup (sorted_nodup (keys_sorted L)) fun x => by rw [h.mem x]; exact ⟨fun h => h.1, fun h2 => ⟨h2, h0 x⟩⟩

theorem mapK_some {L K : List Int} {v : Int} {u : Value} (h : mapK L K L.length v = some u) : v ∈ keysOf L ∧ u = .int .i64 (byTo L K v L.length) := by
  unfold mapK at h
  rw [List.take_length] at h
  split at h
  · rename_i h2; exact ⟨h2, (Option.some.inj h).symm⟩
  · cases h

theorem keys_len : ∀ L : List Int, (keysOf L).length ≤ L.length
  | [] => by simp [keysOf]
  | l :: L => by
    have ih := keys_len L
    have : ∀ (v : Int) (l : List Int), (insK v l).length ≤ l.length + 1 := fun v l => by
      induction l with
      | nil => simp [insK]
      | cons x l ih => unfold insK; split <;> (try split) <;> simp <;> omega
    have := this (l.natAbs : Int) (keysOf L)
    simp only [keysOf, List.length_cons]
    omega

theorem Met.len {L : List Int} {left : Int → Bool} {ks : List Int} (h : Met L left ks) : ks.length ≤ L.length := by
  have h1 : ks.Perm ((keysOf L).filter fun x => decide (x ∈ ks)) :=
    nodup_perm h.nodup ((sorted_nodup (keys_sorted L)).filter _) fun x => by
      rw [List.mem_filter, decide_eq_true_eq]
      exact ⟨fun hx => ⟨((h.mem x).1 hx).1, hx⟩, fun hx => hx.2⟩
  have h2 := h1.length_eq
  have h3 := keys_len L
  have h4 := List.length_filter_le (fun x => decide (x ∈ ks)) (keysOf L)
  omega

end Go.Proofs.YtfhpfbakoiekpaaGreatDoor

/- slices.Sort and slices.Compact of ints: the plain laws. -/
namespace Go.Proofs.YtfhpfbakoiekpaaGreatDoor
open Go.RowKit Go.Lib

theorem geti (l : List Int) {j : Nat} (hj : j < l.length) : l.toArray[j]! = l[j] := by
  rw [getElem!_pos l.toArray j (by simpa using hj)]
  simp

theorem compact_sorted {l : List Int} (hs : l.Pairwise (· ≤ ·)) : ∀ m, m ≤ l.length → (compactUpTo l.toArray m).Pairwise (· < ·) ∧ ∀ x, x ∈ compactUpTo l.toArray m ↔ ∃ j, j < m ∧ l.toArray[j]! = x
  | 0, _ => by simp [compactUpTo]
  | m + 1, hm => by
    obtain ⟨h1, h2⟩ := compact_sorted hs m (by omega)
    rw [List.pairwise_iff_getElem] at hs
    have hle : ∀ i j, i ≤ j → j < l.length → l.toArray[i]! ≤ l.toArray[j]! := fun i j hij hj => by
      rw [geti l hj, geti l (by omega)]
      by_cases e : i = j
      · subst e; exact Int.le_refl _
      · exact hs i j (by omega) hj (by omega)
    rw [compactUpTo_succ]
    by_cases hk : keeps l.toArray m = true
    · rw [if_pos hk]
      unfold keeps at hk
      simp only [decide_eq_true_eq] at hk
      refine ⟨List.pairwise_append.2 ⟨h1, List.pairwise_singleton _ _, fun x hx y hy => ?_⟩, fun x => ?_⟩
      · rw [List.mem_singleton] at hy
        subst hy
        obtain ⟨j, hj, rfl⟩ := (h2 x).1 hx
        have h3 := hle j (m - 1) (by omega) (by omega)
        have h4 := hle (m - 1) m (by omega) (by omega)
        rcases hk with hk | hk
        · omega
        · have : l.toArray[m - 1]! ≠ l.toArray[m]! := fun e => hk e.symm
          omega
      · rw [List.mem_append, h2 x, List.mem_singleton]
        constructor
        · rintro (⟨j, hj, e⟩ | e)
          · exact ⟨j, by omega, e⟩
          · exact ⟨m, by omega, e.symm⟩
        · rintro ⟨j, hj, e⟩
          by_cases h : j = m
          · subst h; exact .inr e.symm
          · exact .inl ⟨j, by omega, e⟩
    · rw [if_neg hk, List.append_nil]
      refine ⟨h1, fun x => ?_⟩
      rw [h2 x]
      unfold keeps at hk
      simp only [decide_eq_true_eq, not_or, ne_eq, Decidable.not_not] at hk
      constructor
      · rintro ⟨j, hj, e⟩
        exact ⟨j, by omega, e⟩
      · rintro ⟨j, hj, e⟩
        by_cases h : j = m
        · subst h; exact ⟨j - 1, by omega, hk.2.symm.trans e⟩
        · exact ⟨j, by omega, e⟩

theorem sortI_pairwise (l : List Int) : (l.mergeSort fun x y => decide (x ≤ y)).Pairwise (· ≤ ·) := by
  have := List.pairwise_mergeSort (le := fun x y : Int => decide (x ≤ y)) (fun a b c h1 h2 => by simp only [decide_eq_true_eq] at *; omega) (fun a b => by simp only [Bool.or_eq_true, decide_eq_true_eq]; omega) l
  exact this.imp fun h => by simpa using h

theorem sortI_mem (l : List Int) (x : Int) : x ∈ (l.mergeSort fun x y => decide (x ≤ y)) ↔ x ∈ l := (List.mergeSort_perm l _).mem_iff

/-- Sorted and without repetition: the set. -/
theorem compact_set (l : List Int) : compact (l.mergeSort fun x y => decide (x ≤ y)) = setL l := by
  have h := compact_sorted (sortI_pairwise l) _ (Nat.le_refl _)
  refine sorted_eqP h.1 (setL_sorted l) fun x => ?_
  rw [mem_setL, ← sortI_mem l x]
  have h2 := h.2 x
  unfold compact
  rw [h2]
  constructor
  · rintro ⟨j, hj, e⟩
    rw [geti _ hj] at e
    exact e ▸ List.getElem_mem hj
  · intro hx
    obtain ⟨j, hj, e⟩ := List.mem_iff_getElem.1 hx
    exact ⟨j, hj, by rw [geti _ hj]; exact e⟩

/-- A list without repetition, sorted. -/
theorem sortI_nodup {l s : List Int} (hn : l.Nodup) (hs : s.Pairwise (· < ·)) (h : ∀ x, x ∈ l ↔ x ∈ s) : (l.mergeSort fun x y => decide (x ≤ y)) = s := by
  refine sorted_eqP ?_ hs fun x => (sortI_mem l x).trans (h x)
  have h1 := sortI_pairwise l
  have h2 : (l.mergeSort fun x y => decide (x ≤ y)).Nodup := (List.mergeSort_perm l _).nodup_iff.2 hn
  exact (h1.and h2).imp fun h => by have := h.1; have := h.2; omega

theorem sortI_len (l : List Int) : (l.mergeSort fun x y => decide (x ≤ y)).length = l.length := List.length_mergeSort _

end Go.Proofs.YtfhpfbakoiekpaaGreatDoor

/- slices.Sort, slices.Compact at ints the call's own. -/
namespace Go.Proofs.YtfhpfbakoiekpaaGreatDoor
open Go.RowKit Go.Sort

theorem ix_map (l : List Int) : (List.range l.length).map (fun i => Value.int .i64 (ix l i)) = l.map (Value.int .i64) := by
  apply List.ext_getElem (by simp)
  intro i h1 h2
  simp only [List.length_map, List.length_range] at h1
  simp [ix, List.getD_eq_getElem?_getD, List.getElem?_eq_getElem h1]

theorem fits_mem {l s : List Int} (h : Fits l) (hm : ∀ x ∈ s, x ∈ l) : Fits s := fitI fun x hx => by
  obtain ⟨j, hj, e⟩ := List.mem_iff_getElem.1 (hm x hx)
  have := h j
  rw [ix_get hj, e] at this
  exact this

abbrev srt (l : List Int) : List Int := l.mergeSort fun x y => decide (x ≤ y)

theorem sortI_own {base : Nat} {w : World} {v : Value} {l : List Int} (h : OwnI base w v l) :
    Calls Tryz.prog 107 #[v] w fun e w' => e = .returned (.tuple #[]) ∧ OwnI base w' v (srt l) ∧ w.grownBy w' v.ownBlock := by
  have hfit : Fits (srt l) := fits_mem h.2 fun x hx => (sortI_mem l x).1 hx
  have hlen := sortI_len l
  have hb8 := h.1.2
  rcases h.1.1.2 with ⟨rfl, e⟩ | ⟨g, cap, cur, rfl, hb, hg, hn, hm, hs, hx⟩
  · have e0 : l = [] := List.eq_nil_of_length_eq_zero e
    subst e0
    refine (Tryz.slices_Sort_int_none none 0 w).mono ?_
    rintro e w' ⟨rfl, rfl⟩
    refine ⟨rfl, ?_, ⟨rfl, rfl, rfl, Nat.le_refl _, fun _ _ _ => rfl⟩⟩
    have e2 : srt [] = [] := by simp [srt]
    rw [e2]; exact h
  · rw [ix_map] at hx
    have hH := holds_of_blockI (ss := l) hg (by simpa using hx)
    have hc := Tryz.slices_Sort_int g 0 cap l w hH (Array.getElem?_eq_some_iff.1 hg).1 (by omega)
    refine hc.mono ?_
    rintro e w' ⟨rfl, n, os, rfl⟩
    refine ⟨rfl, ⟨⟨?_, by rw [hlen]; exact hb8⟩, hfit⟩, grownBy_sortedI _⟩
    have h2 := ownsRow_sortedI (n := n) (os := os) (base := base) (ts := srt l) hlen hb hg hn hm hs
    rw [ix_map, hlen]
    exact h2

end Go.Proofs.YtfhpfbakoiekpaaGreatDoor

/- A region that draws its order, by what holds of the world when some of its operations have come up: each operation is met once, wherever it comes up. -/
namespace Go.Proofs.YtfhpfbakoiekpaaGreatDoor
open Go.RowKit

section
variable {P : Program} {l : List Oper} {D : Nat → Nat → Bool} {Q : Exit → Act → World → Prop} {a0 : Act}

theorem put_other {a b : Act} {d : Option Tmp} {v v' : Value} (hs : a.tmps.size = b.tmps.size) (h : a.put d v = a.put d v') : b.put d v = b.put d v' := by
  cases d with
  | none => rfl
  | some d =>
    by_cases hd : d < a.tmps.size
    · have h1 := congrArg (fun x : Act => x.tmps[d]?) h
      simp only [Act.put, Array.getElem?_setIfInBounds, hd, if_true] at h1
      rw [Option.some.inj h1]
    · have hb : ¬ d < b.tmps.size := by rw [← hs]; exact hd
      simp only [Act.put, Array.setIfInBounds, hb, dif_neg, not_false_eq_true]

/-- What one operation does, met with all that it waits for behind it. -/
def StepJ (P : Program) (l : List Oper) (a0 : Act) (W : (Nat → Value) → (Nat → Bool) → World → Prop) (i : Nat) (vals : Nat → Value) (L : Nat → Bool) (w : World) : Prop :=
  Region.wanted (opAt l i) (yielded l.toArray (Afr l a0 vals i).tmps) = true ∧
    (opAt l i).wp P (Afr l a0 vals i) w (fun a' w' => ∃ v, a' = (Afr l a0 vals i).put (opAt l i).dst v ∧ W (updN vals i v) (updN L i true) w') (fun _ _ _ => False)

theorem StepJ.of {W : (Nat → Value) → (Nat → Bool) → World → Prop} {i : Nat} {vals : Nat → Value} {L : Nat → Bool} {w : World} (hw : Region.wanted (opAt l i) (yielded l.toArray (Afr l a0 vals i).tmps) = true)
    (h : ∀ K : Act → World → Prop, (∀ v w', W (updN vals i v) (updN L i true) w' → K ((Afr l a0 vals i).put (opAt l i).dst v) w') → (opAt l i).wp P (Afr l a0 vals i) w K (fun _ _ _ => False)) : StepJ P l a0 W i vals L w :=
  ⟨hw, h _ fun v _ hW => ⟨v, rfl, hW⟩⟩

theorem any_inv (c : Chk l.toArray D) (ht : ∀ i, i < l.length → tame (opAt l i) = true) (W : (Nat → Value) → (Nat → Bool) → World → Prop)
    (hstep : ∀ i, i < l.length → ∀ vals L w, L i = false → (∀ j, j < l.length → D i j = true → L j = true) → (∀ k, k < l.length → L k = true → ∀ j, j < l.length → D k j = true → L j = true) → W vals L w → StepJ P l a0 W i vals L w)
    (hend : ∀ vals L w, (∀ i, i < l.length → L i = true) → W vals L w → Q .normal (Afr l a0 vals l.length) w) :
    ∀ (fuel : Nat) (listed : Array Bool) (w : World) (vals : Nat → Value), listed.size = l.length → unl listed l.length ≤ fuel →
      (∀ k, k < l.length → listed.getD k false = true → ∀ i, i < l.length → D k i = true → listed.getD i false = true) →
      W vals (fun j => listed.getD j false) w → wpAny P .any l.toArray Q fuel listed (fr l.toArray vals (fun j => listed.getD j false) a0 l.length) w := by
  intro fuel
  have hfin : ∀ (listed : Array Bool) (w : World) (vals : Nat → Value), listed.size = l.length → W vals (fun j => listed.getD j false) w → Region.ready .any l.toArray listed = [] → Q .normal (fr l.toArray vals (fun j => listed.getD j false) a0 l.length) w := by
    intro listed w vals hsz hw hr
    have hall := all_listed c hsz hr
    have e : fr l.toArray vals (fun j => listed.getD j false) a0 l.length = Afr l a0 vals l.length := fr_congr _ (fun k hk => ⟨hall k hk, fun _ => rfl⟩)
    rw [e]
    exact hend vals _ w hall hw
  induction fuel with
  | zero =>
    intro listed w vals hsz hfuel hcl hw
    have hr := ready_nil (l := l) hsz (unl_zero (listed := listed) l.length (by omega))
    exact ⟨hr, hfin listed w vals hsz hw hr⟩
  | succ fuel ih =>
    intro listed w vals hsz hfuel hcl hw
    refine ⟨hfin listed w vals hsz hw, fun i hir => ?_⟩
    obtain ⟨h0, o, ho, hdep⟩ := mem_ready.1 hir
    have hil : i < l.length := by have := (Array.getElem?_eq_some_iff.1 ho).1; simpa using this
    have hlt : i < listed.size := by omega
    obtain rfl : o = opAt l i := by rw [opAt_eq hil] at ho; exact (Option.some.inj ho).symm
    have hiun : listed.getD i false = false := by simp [hlt] at h0 ⊢; exact h0
    have hdeps := deps_listed c hcl hil hdep
    have hno : ∀ k, k < l.length → listed.getD k false = true → D k i = false := fun k hk hlk => by
      cases hd : D k i with
      | false => rfl
      | true => rw [hcl k hk hlk i hil hd] at hiun; cases hiun
    have hfuel' : unl (listed.setIfInBounds i true) l.length ≤ fuel := by have := (unl_set hlt hiun l.length).2 hil; omega
    have hsel : ∀ cs b, (opAt l i).op ≠ .select cs b := fun cs b => c.sel i _ cs b (opAt_eq hil)
    have hag := agree_real (a0 := a0) (v1 := vals) (vals := vals) c hil hiun hdeps hno (fun k hk hlk => rfl)
    obtain ⟨hwant, hwp⟩ := hstep i hil vals _ w hiun hdeps hcl hw
    have := wp_agree (Q := Q) hsel (ht i hil) hag hwp
    unfold wpOp
    simp only [opAt_eq hil]
    rw [← hag.wanted, hwant, if_pos rfl]
    refine .inl (Oper.wp_mono (fun b' w' ⟨v, hb', v2, hv2, hW⟩ => ?_) this)
    rw [hb', put_other hag.1 hv2, fr_step c hil hlt hiun hno]
    refine ih _ w' _ (by simpa using hsz) hfuel' (closed_set hlt hcl hdeps) ?_
    have e : (fun j => (listed.setIfInBounds i true).getD j false) = updN (fun j => listed.getD j false) i true := by
      funext j
      rw [getD_set hlt]
      rfl
    rw [e]
    exact hW

theorem wp_region_inv {id : Nat} {w : World} (W : (Nat → Value) → (Nat → Bool) → World → Prop) (hm : P.follows .mixedOrders = true) (hB : chk l.toArray (masks l) = true) (ht : l.all tame = true) (h0 : W (fun _ => undef) (fun _ => false) w.drew)
    (hstep : ∀ i, i < l.length → ∀ vals L w, L i = false → (∀ j, j < l.length → dm (masks l) i j = true → L j = true) → (∀ k, k < l.length → L k = true → ∀ j, j < l.length → dm (masks l) k j = true → L j = true) → W vals L w → StepJ P l a0 W i vals L w)
    (hend : ∀ vals L w, (∀ i, i < l.length → L i = true) → W vals L w → Q .normal (Afr l a0 vals l.length) w) : (Code.region id l.toArray true).wp P Q a0 w := by
  refine wp_region_any hm ?_
  have hun : ∀ k, unl (Array.replicate l.toArray.size false) k ≤ k := fun k => by
    induction k with
    | zero => exact Nat.le_refl _
    | succ k ih => unfold unl; split <;> omega
  have hf : ∀ j, (Array.replicate l.toArray.size false).getD j false = false := fun j => by
    simp only [Array.getD_eq_getD_getElem?, Array.getElem?_replicate]
    split <;> simp
  have hff : (fun j => (Array.replicate l.toArray.size false).getD j false) = fun _ => false := funext hf
  have htt : ∀ i, i < l.length → tame (opAt l i) = true := fun i hi => by
    have := List.all_eq_true.1 ht (l[i]) (List.getElem_mem hi)
    simpa [opAt, List.getD, hi] using this
  have := any_inv (Q := Q) (a0 := a0) (chk_spec hB) htt W hstep hend l.toArray.size (Array.replicate l.toArray.size false) { w with drawn := w.drawn + 1 } (fun _ => undef) (by simp) (by simpa using hun l.length)
    (fun k _ h => by rw [hf] at h; cases h) (by rw [hff]; exact h0)
  have e : ∀ k, fr l.toArray (fun _ => undef) (fun j => (Array.replicate l.toArray.size false).getD j false) a0 k = a0 := fun k => by
    induction k with
    | zero => rfl
    | succ k ih => rw [fr, if_neg (by rw [hf]; exact Bool.false_ne_true), ih]
  rw [e] at this
  exact this
end

end Go.Proofs.YtfhpfbakoiekpaaGreatDoor

/- pb.Norm: 'out.Lits, out.Coefs = append(out.Lits, v), append(out.Coefs, k)': what holds when some of the statement's operations have come up. -/
namespace Go.Proofs.YtfhpfbakoiekpaaGreatDoor
open Go.RowKit

def Far (u v : Value) : Prop := ∀ g, u.ownBlock = some g → v.ownBlock ≠ some g

/-- w: the world ahead of the statement; ob: the block of out. -/
structure TW (w : World) (ob : Nat) (v1 v2 bd : Value) (l1 l2 : List Int) (x y : Int) (vals : Nat → Value) (L : Nat → Bool) (wx : World) : Prop where
  below : Below ob w wx
  out : Blk wx ob [if L 11 then vals 4 else v1, if L 13 then vals 9 else v2, bd] 30
  r1 : QRow (ob + 1) wx (if L 4 then vals 4 else v1) (if L 4 then l1 ++ [x] else l1)
  r2 : QRow (ob + 1) wx (if L 9 then vals 9 else v2) (if L 9 then l2 ++ [y] else l2)
  far : Far (if L 4 then vals 4 else v1) (if L 9 then vals 9 else v2)
  t0 : L 0 = true → vals 0 = .pointer (some ⟨ob, 0, none⟩)
  t1 : L 1 = true → vals 1 = v1
  t2 : L 2 = true → vals 2 = .int .i64 x
  t3 : L 3 = true → L 4 = false → ∃ b, vals 3 = .slice (some ⟨b, 0, none⟩) 1 1 ∧ Blk wx b [.int .i64 x] 3
  t5 : L 5 = true → vals 5 = .pointer (some ⟨ob, 1, none⟩)
  t6 : L 6 = true → vals 6 = v2
  t7 : L 7 = true → vals 7 = .int .i64 y
  t8 : L 8 = true → L 9 = false → ∃ b, vals 8 = .slice (some ⟨b, 0, none⟩) 1 1 ∧ Blk wx b [.int .i64 y] 3 ∧ v1.ownBlock ≠ some b
  t10 : L 10 = true → vals 10 = .pointer (some ⟨ob, 0, none⟩)
  t12 : L 12 = true → vals 12 = .pointer (some ⟨ob, 1, none⟩)

section
variable {w : World} {ob : Nat} {v1 v2 bd : Value} {l1 l2 : List Int} {x y : Int} {vals : Nat → Value} {L : Nat → Bool} {wx : World}

theorem TW.start (hb : Blk w ob [v1, v2, bd] 30) (h1 : QRow (ob + 1) w v1 l1) (h2 : QRow (ob + 1) w v2 l2) (hf : Far v1 v2) : TW w ob v1 v2 bd l1 l2 x y (fun _ => undef) (fun _ => false) w.drew where
  below := (Below.refl _ _).drew
  out := hb
  r1 := h1
  r2 := h2
  far := hf
  t0 := fun h => Bool.noConfusion h
  t1 := fun h => Bool.noConfusion h
  t2 := fun h => Bool.noConfusion h
  t3 := fun h => Bool.noConfusion h
  t5 := fun h => Bool.noConfusion h
  t6 := fun h => Bool.noConfusion h
  t7 := fun h => Bool.noConfusion h
  t8 := fun h => Bool.noConfusion h
  t10 := fun h => Bool.noConfusion h
  t12 := fun h => Bool.noConfusion h

/-- What an operation that leaves the world alone must yield. -/
def quietV (ob : Nat) (v1 v2 : Value) (x y : Int) : Nat → Value
  | 0 => .pointer (some ⟨ob, 0, none⟩)
  | 1 => v1
  | 2 => .int .i64 x
  | 5 => .pointer (some ⟨ob, 1, none⟩)
  | 6 => v2
  | 7 => .int .i64 y
  | 10 => .pointer (some ⟨ob, 0, none⟩)
  | _ => .pointer (some ⟨ob, 1, none⟩)

theorem TW.quiet (h : TW w ob v1 v2 bd l1 l2 x y vals L wx) (i : Nat) (hi : i = 0 ∨ i = 1 ∨ i = 2 ∨ i = 5 ∨ i = 6 ∨ i = 7 ∨ i = 10 ∨ i = 12) : TW w ob v1 v2 bd l1 l2 x y (updN vals i (quietV ob v1 v2 x y i)) (updN L i true) wx := by
  obtain ⟨h1, h2, h3, h4, h5, t0, t1, t2, t3, t5, t6, t7, t8, t10, t12⟩ := h
  rcases hi with rfl | rfl | rfl | rfl | rfl | rfl | rfl | rfl <;> constructor <;> first | (simp [updN, quietV]; done) | simpa [updN, quietV]

theorem TW.build3 (h : TW w ob v1 v2 bd l1 l2 x y vals L wx) : TW w ob v1 v2 bd l1 l2 x y (updN vals 3 (.slice (some ⟨wx.heap.size, 0, none⟩) 1 1)) (updN L 3 true) (wx.alloc (.cells #[.int .i64 x] 3)) := by
  have hal := bal (Below.refl wx.heap.size wx) (.cells #[.int .i64 x] 3)
  have hb := Blk.new wx [.int .i64 x] 3
  have hout := h.out.alloc (.cells #[.int .i64 x] 3)
  have h1 := h.r1.below hal
  have h2 := h.r2.below hal
  have h0 := h.below.trans (hal.mono (by have := h.out.lt; omega))
  obtain ⟨-, -, -, -, h5, t0, t1, t2, t3, t5, t6, t7, t8, t10, t12⟩ := h
  constructor <;> try (first | (simp [updN]; done) | simpa [updN])
  · intro _ _; exact ⟨_, by simp [updN], hb⟩
  · intro e1 e2
    simp only [updN, Nat.reduceEqDiff, if_false] at e1 e2
    obtain ⟨b, e, k, k2⟩ := t8 e1 e2
    exact ⟨b, by simpa [updN] using e, k.alloc _, k2⟩

theorem TW.build8 (h : TW w ob v1 v2 bd l1 l2 x y vals L wx) (hx : ∀ g, v1.ownBlock = some g → g < wx.heap.size) : TW w ob v1 v2 bd l1 l2 x y (updN vals 8 (.slice (some ⟨wx.heap.size, 0, none⟩) 1 1)) (updN L 8 true) (wx.alloc (.cells #[.int .i64 y] 3)) := by
  have hal := bal (Below.refl wx.heap.size wx) (.cells #[.int .i64 y] 3)
  have hb := Blk.new wx [.int .i64 y] 3
  have hout := h.out.alloc (.cells #[.int .i64 y] 3)
  have h1 := h.r1.below hal
  have h2 := h.r2.below hal
  have h0 := h.below.trans (hal.mono (by have := h.out.lt; omega))
  obtain ⟨-, -, -, -, h5, t0, t1, t2, t3, t5, t6, t7, t8, t10, t12⟩ := h
  constructor <;> try (first | (simp [updN]; done) | simpa [updN])
  · intro e1 e2
    simp only [updN, Nat.reduceEqDiff, if_false] at e1 e2
    obtain ⟨b, e, k⟩ := t3 e1 e2
    exact ⟨b, by simpa [updN] using e, k.alloc _⟩
  · intro _ _; exact ⟨_, by simp [updN], hb, fun e => by have := hx _ e; omega⟩

theorem below_row {n : Nat} {w w' : World} {u : Value} (h : w.grownBy w' u.ownBlock) (hn : n ≤ w.heap.size) (hu : ∀ g, u.ownBlock = some g → n ≤ g) : Below n w w' :=
  ⟨h.os, h.tape, h.output, h.size, fun i hi => h.block i (by omega) (fun e => by have := hu i e.symm; omega)⟩

theorem QRow.base {base : Nat} {w : World} {v : Value} {l : List Int} (h : QRow base w v l) {g : Nat} (e : v.ownBlock = some g) : base ≤ g ∧ g < w.heap.size := by
  rcases h.2 with ⟨rfl, _⟩ | ⟨g', off, cap, cur, rfl, hb, hg, _⟩
  · cases e
  · simp only [Value.ownBlock, Option.some.injEq] at e
    subst e
    exact ⟨hb, (Array.getElem?_eq_some_iff.1 hg).1⟩

theorem TW.app4 (h : TW w ob v1 v2 bd l1 l2 x y vals L wx) (h4 : L 4 = false) (h9 : L 9 = false) (h11 : L 11 = false) {v' : Value} {w' : World} (hq : QRow (ob + 1) w' v' (l1 ++ [x])) (hg : wx.grownBy w' v1.ownBlock) (ho : v'.ownBlock = v1.ownBlock ∨ v'.ownBlock = some wx.heap.size) :
    TW w ob v1 v2 bd l1 l2 x y (updN vals 4 v') (updN L 4 true) w' := by
  have hout := h.out
  have hr1 := h.r1
  have hr2 := h.r2
  have hf := h.far
  have hbl := h.below
  have hlt := hout.lt
  rw [h4] at hr1 hf
  rw [h9] at hr2 hf
  simp only [Bool.false_eq_true, if_false] at hr1 hr2 hf
  have hb : Below ob w w' := hbl.trans (below_row hg (by omega) (fun g e => by have := (hr1.base e).1; omega))
  have hr2' : QRow (ob + 1) w' v2 l2 := hr2.kept fun i h1 h2 h3 => hg.block i h2 (fun e => hf i e.symm h3)
  have hf' : Far v' v2 := fun g e e2 => by
    rcases ho with h1 | h1
    · exact hf g (h1 ▸ e) e2
    · rw [h1] at e
      have := (hr2.base e2).2
      have := Option.some.inj e
      omega
  have hout' : Blk w' ob [if L 11 then vals 4 else v1, if L 13 then vals 9 else v2, bd] 30 := hout.same (hg.block ob hlt (fun e => by have := (hr1.base e.symm).1; omega))
  obtain ⟨-, -, -, -, -, t0, t1, t2, t3, t5, t6, t7, t8, t10, t12⟩ := h
  have n11 : L 11 = false := h11
  rw [n11] at hout'
  simp only [Bool.false_eq_true, if_false] at hout'
  constructor
  · exact hb
  · simpa [updN, n11] using hout'
  · simpa [updN] using hq
  · simpa [updN, h9] using hr2'
  · simpa [updN, h9] using hf'
  · simpa [updN] using t0
  · simpa [updN] using t1
  · simpa [updN] using t2
  · intro _ e; simp [updN] at e
  · simpa [updN] using t5
  · simpa [updN] using t6
  · simpa [updN] using t7
  · intro e1 e2
    simp only [updN, Nat.reduceEqDiff, if_false] at e1 e2
    obtain ⟨b, e, k, k2⟩ := t8 e1 e2
    exact ⟨b, by simpa [updN] using e, k.same (hg.block b k.lt (fun e3 => k2 e3.symm)), k2⟩
  · simpa [updN] using t10
  · simpa [updN] using t12

theorem TW.app9 (h : TW w ob v1 v2 bd l1 l2 x y vals L wx) (h4 : L 4 = true) (h9 : L 9 = false) (h13 : L 13 = false) {v' : Value} {w' : World} (hq : QRow (ob + 1) w' v' (l2 ++ [y])) (hg : wx.grownBy w' v2.ownBlock) (ho : v'.ownBlock = v2.ownBlock ∨ v'.ownBlock = some wx.heap.size) :
    TW w ob v1 v2 bd l1 l2 x y (updN vals 9 v') (updN L 9 true) w' := by
  have hout := h.out
  have hr1 := h.r1
  have hr2 := h.r2
  have hf := h.far
  have hbl := h.below
  have hlt := hout.lt
  rw [h4] at hr1 hf
  rw [h9] at hr2 hf
  simp only [Bool.false_eq_true, if_false, if_true] at hr1 hr2 hf
  have hb : Below ob w w' := hbl.trans (below_row hg (by omega) (fun g e => by have := (hr2.base e).1; omega))
  have hr1' : QRow (ob + 1) w' (vals 4) (l1 ++ [x]) := hr1.kept fun i h1 h2 h3 => hg.block i h2 (fun e => hf i h3 e.symm)
  have hf' : Far (vals 4) v' := fun g e e2 => by
    rcases ho with h1 | h1
    · exact hf g e (h1 ▸ e2)
    · rw [h1] at e2
      have := (hr1.base e).2
      have := Option.some.inj e2
      omega
  have hout' : Blk w' ob [if L 11 then vals 4 else v1, if L 13 then vals 9 else v2, bd] 30 := hout.same (hg.block ob hlt (fun e => by have := (hr2.base e.symm).1; omega))
  obtain ⟨-, -, -, -, -, t0, t1, t2, t3, t5, t6, t7, t8, t10, t12⟩ := h
  rw [h13] at hout'
  simp only [Bool.false_eq_true, if_false] at hout'
  constructor
  · exact hb
  · simpa [updN, h13] using hout'
  · simpa [updN, h4] using hr1'
  · simpa [updN] using hq
  · simpa [updN, h4] using hf'
  · simpa [updN] using t0
  · simpa [updN] using t1
  · simpa [updN] using t2
  · intro _ e; simp [updN, h4] at e
  · simpa [updN] using t5
  · simpa [updN] using t6
  · simpa [updN] using t7
  · intro _ e; simp [updN] at e
  · simpa [updN] using t10
  · simpa [updN] using t12

theorem TW.store (h : TW w ob v1 v2 bd l1 l2 x y vals L wx) (i : Nat) (h4 : L 4 = true) (h9 : L 9 = true) (hi : i = 11 ∨ i = 13) (u : Value) :
    TW w ob v1 v2 bd l1 l2 x y (updN vals i u) (updN L i true) (wx.setCell ⟨ob, if i = 11 then 0 else 1, none⟩ (if i = 11 then vals 4 else vals 9)) := by
  have hout := h.out
  have hlt := hout.lt
  have hb : Below ob w (wx.setCell ⟨ob, if i = 11 then 0 else 1, none⟩ (if i = 11 then vals 4 else vals 9)) := h.below.setCell (p := ⟨ob, _, none⟩) (Nat.le_refl _) _
  have hr1 : QRow (ob + 1) (wx.setCell ⟨ob, if i = 11 then 0 else 1, none⟩ (if i = 11 then vals 4 else vals 9)) _ _ := h.r1.kept fun k h1 h2 _ => by
    simp only [World.setCell]
    rw [Array.getElem?_modify]
    rw [if_neg (by omega)]
  have hr2 : QRow (ob + 1) (wx.setCell ⟨ob, if i = 11 then 0 else 1, none⟩ (if i = 11 then vals 4 else vals 9)) _ _ := h.r2.kept fun k h1 h2 _ => by
    simp only [World.setCell]
    rw [Array.getElem?_modify]
    rw [if_neg (by omega)]
  have hs := hout.set (if i = 11 then 0 else 1) (if i = 11 then vals 4 else vals 9)
  obtain ⟨-, -, -, -, h5, t0, t1, t2, t3, t5, t6, t7, t8, t10, t12⟩ := h
  rw [h4] at hr1 h5
  rw [h9] at hr2 h5
  simp only [if_true] at hr1 hr2 h5
  rcases hi with rfl | rfl
  · simp only [if_true, List.set_cons_zero] at hs hb hr1 hr2 ⊢
    constructor
    · exact hb
    · simpa [updN] using hs
    · simpa [updN, h4] using hr1
    · simpa [updN, h9] using hr2
    · simpa [updN, h4, h9] using h5
    · simpa [updN] using t0
    · simpa [updN] using t1
    · simpa [updN] using t2
    · intro _ e; simp [updN, h4] at e
    · simpa [updN] using t5
    · simpa [updN] using t6
    · simpa [updN] using t7
    · intro _ e; simp [updN, h9] at e
    · simpa [updN] using t10
    · simpa [updN] using t12
  · simp only [Nat.reduceEqDiff, if_false, List.set_cons_zero, List.set_cons_succ] at hs hb hr1 hr2 ⊢
    constructor
    · exact hb
    · simpa [updN] using hs
    · simpa [updN, h4] using hr1
    · simpa [updN, h9] using hr2
    · simpa [updN, h4, h9] using h5
    · simpa [updN] using t0
    · simpa [updN] using t1
    · simpa [updN] using t2
    · intro _ e; simp [updN, h4] at e
    · simpa [updN] using t5
    · simpa [updN] using t6
    · simpa [updN] using t7
    · intro _ e; simp [updN, h9] at e
    · simpa [updN] using t10
    · simpa [updN] using t12

theorem TW.end (h : TW w ob v1 v2 bd l1 l2 x y vals L wx) (hL : ∀ i, i < 14 → L i = true) : Blk wx ob [vals 4, vals 9, bd] 30 ∧ QRow (ob + 1) wx (vals 4) (l1 ++ [x]) ∧ QRow (ob + 1) wx (vals 9) (l2 ++ [y]) ∧ Far (vals 4) (vals 9) ∧ Below ob w wx := by
  have h0 := h.out
  have h1 := h.r1
  have h2 := h.r2
  have h3 := h.far
  rw [hL 11 (by omega), hL 13 (by omega)] at h0
  rw [hL 4 (by omega)] at h1 h3
  rw [hL 9 (by omega)] at h2 h3
  exact ⟨h0, h1, h2, h3, h.below⟩
end

end Go.Proofs.YtfhpfbakoiekpaaGreatDoor

/- pb.Norm: the first loop. -/
namespace Go.Proofs.YtfhpfbakoiekpaaGreatDoor
open Go.RowKit

/-- A constraint whose rows are the call's own. -/
def PBQ (base : Nat) (w : World) (v : Value) (c : PBC) : Prop := ∃ vl vk, v = .agg #[vl, vk, .int .i64 c.bound] ∧ QRow base w vl c.lits ∧ QRow base w vk c.coefs ∧ InI c.bound ∧ c.lits.length ≤ 65536 ∧ c.coefs.length ≤ 65536

theorem PBQ.is {base : Nat} {w : World} {v : Value} {c : PBC} (h : PBQ base w v c) : PBIs w v c :=
  let ⟨vl, vk, e, h1, h2, h3, h4, h5⟩ := h; ⟨vl, vk, e, h1.ints (by omega), h2.ints (by omega), h3⟩

theorem PBQ.below {base : Nat} {w w' : World} {v : Value} {c : PBC} (h : PBQ base w v c) (hb : Below w.heap.size w w') : PBQ base w' v c :=
  let ⟨vl, vk, e, h1, h2, h3⟩ := h; ⟨vl, vk, e, h1.below hb, h2.below hb, h3⟩

abbrev pbZ : List Value := [.slice none 0 0, .slice none 0 0, .int .i64 0]

structure N1St (L K : List Int) (w : World) (k : Nat) (wx : World) : Prop where
  map : MapIs (Value.int .i64) wx (w.heap.size + 1) (mapK L K k)
  below : Below w.heap.size w wx
  box : Blk wx w.heap.size pbZ 30
  ok : ∀ j, j < k → pokAt L K j = true

def N1Rel (L K : List Int) (B : Int) (w : World) (b i : Value) (wx : World) : Prop := ∃ k : Nat, k ≤ L.length ∧ i = .int .i64 k ∧ b = .int .i64 (B - negTo L K k) ∧ N1St L K w k wx

theorem N1St.put {L K : List Int} {w wr w7 : World} {k : Nat} {x y : Int} (h : N1St L K w k wr) (hk : k < L.length) (hp : pokAt L K k = true) (hx : ((ix L k).natAbs : Int) = x) (hy : y = byTo L K x (k + 1))
    (hm : MapIs (Value.int .i64) w7 (w.heap.size + 1) (upd (mapK L K k) x (some (.int .i64 y)))) (hg : wr.grownBy w7 (some (w.heap.size + 1))) : N1St L K w (k + 1) w7 := by
  have hok : ∀ j, j < k + 1 → pokAt L K j = true := fun j hj => by
    by_cases e : j = k
    · subst e; exact hp
    · exact h.ok j (by omega)
  rw [mapK_step hk (fun j hj => (pok_at (hok j hj)).1) hx hy] at hm
  refine ⟨hm, h.below.trans ⟨hg.os, hg.tape, hg.output, hg.size, fun i hi => hg.block i (by have := h.below.size; omega) (fun e => by have := Option.some.inj e; omega)⟩, h.box.same (hg.block _ h.box.lt (fun e => by have := Option.some.inj e; omega)), hok⟩

/-- The bounds of the numbers under way. -/
theorem by_small {L K : List Int} {v : Int} {i : Nat} (hi : i ≤ 65536) (h : ∀ j, j < i → pokAt L K j = true) : -1099511627776 ≤ byTo L K v i ∧ byTo L K v i ≤ 1099511627776 := by
  have h1 := byTo_bound (L := L) (K := K) (v := v) i (fun j hj => (pok_at (h j hj)).2.2.2)
  omega

theorem neg_small {L K : List Int} {i : Nat} (hi : i ≤ 65536) (h : ∀ j, j < i → pokAt L K j = true) : -1099511627776 ≤ negTo L K i ∧ negTo L K i ≤ 1099511627776 := by
  have h1 := negTo_bound (L := L) (K := K) i (fun j hj => (pok_at (h j hj)).2.2.2)
  omega

theorem pok_fail {L K : List Int} {B : Int} (h0 : ¬ (L.length ≠ K.length ∨ 65536 < L.length ∨ B < -1099511627776 ∨ 1099511627776 < B)) {k : Nat} (hk : k < L.length) (h : pokAt L K k = false) : normP L K B = (⟨[], [], 0⟩, 2) := by
  unfold normP
  rw [if_neg h0, if_pos (allR_false k hk h)]

theorem pok_all {L K : List Int} {B : Int} (h0 : ¬ (L.length ≠ K.length ∨ 65536 < L.length ∨ B < -1099511627776 ∨ 1099511627776 < B)) (h : ∀ k, k < L.length → pokAt L K k = true) :
    normP L K B = normC (fun v => byTo L K v L.length) ((keysOf L).filter fun v => byTo L K v L.length != 0) (B - negTo L K L.length - sumI (fun v => lowI (byTo L K v L.length)) (keysOf L)) := by
  unfold normP
  rw [if_neg h0, if_neg (by rw [allR_true h]; exact Bool.false_ne_true ∘ Eq.symm)]

section
variable {κ : Type} {kv : κ → Value} {P : Program} {w : World} {ops : Array Oper} {rest : List Oper} {o : Oper} {a : Act} {Q : Exit → Act → World → Prop}

theorem wpList_mnext0 [DecidableEq κ] (g : κ → Option Value) (b r : Nat) (left : κ → Bool) (hinj : ∀ a c, kv a = kv c → a = c)
    (hg : o.guard = none) (it : Operand) (hop : o.op = Op.next it false) (hit : a.eval it = .pointer (some ⟨r, 0, none⟩)) (h : RangeIs kv w b r g left 0)
    (hDone : (∀ k, left k = false) → wpList P ops Q rest (a.put o.dst (.tuple #[.bool false])) w) : wpList P ops Q (o :: rest) a w :=
  wpList_mnext g b r left 0 hinj hg it hop hit h (fun _ => hDone) (fun _ _ _ _ _ _ _ hlt => absurd hlt (Nat.not_lt_zero _))

theorem wpList_mnext1 [DecidableEq κ] (g : κ → Option Value) (b r : Nat) (left : κ → Bool) (cnt : Nat) (hc : cnt ≠ 0) (hinj : ∀ a c, kv a = kv c → a = c)
    (hg : o.guard = none) (it : Operand) (hop : o.op = Op.next it false) (hit : a.eval it = .pointer (some ⟨r, 0, none⟩)) (h : RangeIs kv w b r g left cnt)
    (hMore : ∀ k v w' cnt', left k = true → g k = some v → RangeIs kv w' b r g (fun x => left x && !decide (x = k)) cnt' → cnt' < cnt → w.grownBy w' (some r) → w'.heap.size = w.heap.size →
      (Instr.entry (.pointer (some ⟨r, 0, none⟩))).run P w' = .ok (.tuple #[kv k, v]) w' → wpList P ops Q rest (a.put o.dst (.tuple #[.bool true, kv k, v])) w') : wpList P ops Q (o :: rest) a w :=
  wpList_mnext g b r left cnt hinj hg it hop hit h (fun h0 => absurd h0 hc) hMore
end

theorem kvI_inj : ∀ a c : Int, Value.int .i64 a = Value.int .i64 c → a = c := fun _ _ h => by injection h

theorem below3 {n : Nat} {w wr : World} (h : Below n w wr) (b : Nat) (hb : n ≤ b) (x y z : Value) : Below n w (((wr.setCell ⟨b, 0, none⟩ x).setCell ⟨b, 1, none⟩ y).setCell ⟨b, 2, none⟩ z) :=
  ((h.setCell (p := ⟨b, 0, none⟩) hb _).setCell (p := ⟨b, 1, none⟩) hb _).setCell (p := ⟨b, 2, none⟩) hb _

theorem row3 {base : Nat} {wr : World} {v : Value} {l : List Int} (h : QRow base wr v l) (b : Nat) (hb : b < base) (x y z : Value) : QRow base (((wr.setCell ⟨b, 0, none⟩ x).setCell ⟨b, 1, none⟩ y).setCell ⟨b, 2, none⟩ z) v l :=
  h.kept fun i h1 _ _ => ((Below.heap_setCell _ _ _ _ (by show i ≠ b; omega)).trans (Below.heap_setCell _ _ _ _ (by show i ≠ b; omega))).trans (Below.heap_setCell _ _ _ _ (by show i ≠ b; omega))

/-! ### The second loop -/
/-- Those of the keys met that have a coefficient. -/
def flK (L K : List Int) (ks : List Int) : List Int := ks.filter fun v => byTo L K v L.length != 0
def lowS (L K : List Int) (ks : List Int) : Int := sumI (fun v => lowI (byTo L K v L.length)) ks

theorem flK_snoc (L K : List Int) (ks : List Int) (v : Int) : flK L K (ks ++ [v]) = if byTo L K v L.length = 0 then flK L K ks else flK L K ks ++ [v] := by
  unfold flK
  rw [List.filter_append]
  by_cases h : byTo L K v L.length = 0 <;> simp [h]
theorem lowS_snoc (L K : List Int) (ks : List Int) (v : Int) : lowS L K (ks ++ [v]) = if byTo L K v L.length < 0 then lowS L K ks + byTo L K v L.length else lowS L K ks := by
  unfold lowS
  rw [sumI_snoc]
  unfold lowI
  split <;> omega

structure N2W (L K : List Int) (w : World) (R0 : Nat) (left : Int → Bool) (cnt : Nat) (v12 : Value) (l : List Int) (wx : World) : Prop where
  rng : RangeIs (Value.int .i64) wx (w.heap.size + 1) R0 (mapK L K L.length) left cnt
  row : wx.ownsRow (R0 + 1) 3 1 v12 l.length (l.map (Value.int .i64))
  below : Below w.heap.size w wx
  box : Blk wx w.heap.size pbZ 30
  lt : w.heap.size + 1 < R0

def N2Rel (L K : List Int) (B : Int) (w : World) (R0 : Nat) (b v12 : Value) (wx : World) : Prop :=
  ∃ left cnt ks, Met L left ks ∧ b = .int .i64 (B - negTo L K L.length - lowS L K ks) ∧ N2W L K w R0 left cnt v12 (flK L K ks) wx

section
variable {L K : List Int} {w wr w1 w4 : World} {R0 : Nat} {left : Int → Bool} {cnt : Nat} {v12 : Value} {l : List Int}

theorem N2W.step (h : N2W L K w R0 left cnt v12 l wr) {left' : Int → Bool} {cnt' : Nat} (hr : RangeIs (Value.int .i64) w1 (w.heap.size + 1) R0 (mapK L K L.length) left' cnt') (hg : wr.grownBy w1 (some R0)) : N2W L K w R0 left' cnt' v12 l w1 := by
  refine ⟨hr, ?_, h.below.trans ⟨hg.os, hg.tape, hg.output, hg.size, fun i hi => hg.block i (by have := h.below.size; omega) (fun e => by have := h.lt; have := Option.some.inj e; omega)⟩, h.box.same (hg.block _ h.box.lt (fun e => by have := h.lt; have := Option.some.inj e; omega)), h.lt⟩
  refine h.row.kept hg ?_
  rcases h.row.2 with ⟨e2, _⟩ | ⟨g', cap, cur, e2, hb, _⟩
  · rw [e2]; exact .inl rfl
  · rw [e2]; refine .inr fun e => ?_
    have : g' = R0 := Option.some.inj e
    omega

theorem N2W.form (h : N2W L K w R0 left cnt v12 l wr) : ∃ a n c, v12 = .slice a n c := by
  rcases h.row.2 with ⟨e2, _⟩ | ⟨g', cap, cur, e2, hb, _⟩ <;> exact ⟨_, _, _, e2⟩

theorem N2W.own (h : N2W L K w R0 left cnt v12 l w1) : ∀ g, v12.ownBlock = some g → R0 + 1 ≤ g := fun g e => by
  rcases h.row.2 with ⟨e2, _⟩ | ⟨g', cap, cur, e2, hb, _⟩
  · rw [e2] at e; cases e
  · rw [e2] at e
    simp only [Value.ownBlock, Option.some.injEq] at e
    omega

theorem N2W.sorted (h : N2W L K w R0 left cnt v12 l w1) (hg : w1.grownBy w4 v12.ownBlock) : MapIs (Value.int .i64) w4 (w.heap.size + 1) (mapK L K L.length) ∧ Below w.heap.size w w4 ∧ Blk w4 w.heap.size pbZ 30 ∧ w.heap.size + 1 < w4.heap.size := by
  have hown := h.own
  have hlt := h.rng.lt
  have hl := h.lt
  have hsz := hg.size
  exact ⟨h.rng.map.same (hg.block _ h.rng.map.lt (fun e => by have := hown _ e.symm; omega)), h.below.grown hg h.below.size (fun k e => by have := hown _ e; omega), h.box.same (hg.block _ h.box.lt (fun e => by have := hown _ e.symm; omega)), by omega⟩

theorem N2W.push (h : N2W L K w R0 left cnt v12 l w1) {o : Obj} {x : Int} {v4 : Value} (hg : (w1.alloc o).grownBy w4 v12.ownBlock) (hrow : w4.ownsRow (R0 + 1) 3 1 v4 (l.length + 1) (l.map (Value.int .i64) ++ [.int .i64 x])) : N2W L K w R0 left cnt v4 (l ++ [x]) w4 := by
  have hal := bal (Below.refl w1.heap.size w1) o
  have hz : (w1.alloc o).heap.size = w1.heap.size + 1 := World.size_alloc ..
  have hown : ∀ g, v12.ownBlock = some g → R0 + 1 ≤ g := fun g e => by
    rcases h.row.2 with ⟨e2, _⟩ | ⟨g', cap, cur, e2, hb, _⟩
    · rw [e2] at e; cases e
    · rw [e2] at e
      simp only [Value.ownBlock, Option.some.injEq] at e
      omega
  have hlt := h.rng.lt
  have hsz := h.below.size
  have hl := h.lt
  have hrng : RangeIs (Value.int .i64) w4 (w.heap.size + 1) R0 (mapK L K L.length) left cnt := (h.rng.alloc o).grown hg (fun e => by have := hown _ e.symm; omega) (fun e => by have := hown _ e.symm; omega)
  refine ⟨hrng, ?_, (h.below.trans (hal.mono hsz)).grown hg (by omega) (fun k e => by have := hown _ e; omega), (h.box.alloc o).same (hg.block _ (h.box.alloc o).lt (fun e => by have := hown _ e.symm; omega)), h.lt⟩
  rw [List.length_append, List.map_append]
  exact hrow
end

/-! ### The third loop -/
def litsTo (L K V : List Int) (k : Nat) : List Int := (V.take k).map (litOf fun v => byTo L K v L.length)
def coefTo (L K V : List Int) (bd : Int) (k : Nat) : List Int := (V.take k).map fun v => minI (absI (byTo L K v L.length)) bd
def sumN (L K V : List Int) (bd : Int) (k : Nat) : Int := sumI (fun v => minI (absI (byTo L K v L.length)) bd) (V.take k)

theorem take_ixN (V : List Int) (k : Nat) (hk : k < V.length) : V.take (k + 1) = V.take k ++ [ix V k] := by
  rw [List.take_add_one, List.getElem?_eq_getElem hk]
  simp [ix, List.getD_eq_getElem?_getD, List.getElem?_eq_getElem hk]

theorem litsTo_succ {L K V : List Int} {k : Nat} (hk : k < V.length) : litsTo L K V (k + 1) = litsTo L K V k ++ [litOf (fun v => byTo L K v L.length) (ix V k)] := by simp [litsTo, take_ixN V k hk]
theorem coefTo_succ {L K V : List Int} {bd : Int} {k : Nat} (hk : k < V.length) : coefTo L K V bd (k + 1) = coefTo L K V bd k ++ [minI (absI (byTo L K (ix V k) L.length)) bd] := by simp [coefTo, take_ixN V k hk]
theorem sumN_succ {L K V : List Int} {bd : Int} {k : Nat} (hk : k < V.length) : sumN L K V bd (k + 1) = sumN L K V bd k + minI (absI (byTo L K (ix V k) L.length)) bd := by simp [sumN, take_ixN V k hk, sumI_snoc]

/-- W3: the world behind the sort; out lies in the block behind it. -/
structure N3St (L K V : List Int) (w W3 : World) (bd : Int) (k : Nat) (vl vk : Value) (wx : World) : Prop where
  up : Below W3.heap.size W3 wx
  out : Blk wx W3.heap.size [vl, vk, .int .i64 bd] 30
  rl : QRow (W3.heap.size + 1) wx vl (litsTo L K V k)
  rk : QRow (W3.heap.size + 1) wx vk (coefTo L K V bd k)
  far : Far vl vk

def N3Rel (L K V : List Int) (w W3 : World) (bd : Int) (s i : Value) (wx : World) : Prop :=
  ∃ (k : Nat) (vl vk : Value), k ≤ V.length ∧ i = .int .i64 k ∧ s = .int .i64 (sumN L K V bd k) ∧ N3St L K V w W3 bd k vl vk wx

theorem N3St.start (L K V : List Int) (w W3 : World) (bd : Int) : N3St L K V w W3 bd 0 (.slice none 0 0) (.slice none 0 0) (W3.alloc (.cells #[.slice none 0 0, .slice none 0 0, .int .i64 bd] 30)) :=
  ⟨bal (Below.refl _ _) _, Blk.new W3 [.slice none 0 0, .slice none 0 0, .int .i64 bd] _, QRow.nil _ _, QRow.nil _ _, fun g e => by cases e⟩

theorem N3St.step {L K V : List Int} {w W3 wr w' : World} {k : Nat} {bd : Int} {vl vk vl' vk' : Value} (h : N3St L K V w W3 bd k vl vk wr) (hk : k < V.length) (hb : Below W3.heap.size wr w')
    (ho : Blk w' W3.heap.size [vl', vk', .int .i64 bd] 30) (h1 : QRow (W3.heap.size + 1) w' vl' (litsTo L K V k ++ [litOf (fun v => byTo L K v L.length) (ix V k)])) (h2 : QRow (W3.heap.size + 1) w' vk' (coefTo L K V bd k ++ [minI (absI (byTo L K (ix V k) L.length)) bd])) (hf : Far vl' vk') :
    N3St L K V w W3 bd (k + 1) vl' vk' w' :=
  ⟨h.up.trans hb, ho, by rw [litsTo_succ hk]; exact h1, by rw [coefTo_succ hk]; exact h2, hf⟩

theorem sumN_small {L K V : List Int} {bd : Int} (hb : 0 < bd) (hy : ∀ v, -1099511627776 ≤ byTo L K v L.length ∧ byTo L K v L.length ≤ 1099511627776) : ∀ k : Nat, k ≤ V.length → 0 ≤ sumN L K V bd k ∧ sumN L K V bd k ≤ 1099511627776 * k
  | 0, _ => by simp [sumN, sumI]
  | k + 1, h => by
    have ih := sumN_small (L := L) (K := K) (V := V) hb hy k (by omega)
    rw [sumN_succ (by omega)]
    have h0 := hy (ix V k)
    have h1 : 0 ≤ minI (absI (byTo L K (ix V k) L.length)) bd ∧ minI (absI (byTo L K (ix V k) L.length)) bd ≤ 1099511627776 := by
      unfold minI absI
      split <;> split <;> omega
    omega

theorem lowS_small {L K : List Int} (hy : ∀ v, -1099511627776 ≤ byTo L K v L.length ∧ byTo L K v L.length ≤ 1099511627776) (ks : List Int) : -(1099511627776 * (ks.length : Int)) ≤ lowS L K ks ∧ lowS L K ks ≤ 0 := by
  unfold lowS
  induction ks with
  | nil => simp [sumI]
  | cons v ks ih =>
    have h := hy v
    have h1 : -1099511627776 ≤ lowI (byTo L K v L.length) ∧ lowI (byTo L K v L.length) ≤ 0 := by unfold lowI; split <;> omega
    simp only [sumI, List.length_cons]
    omega

end Go.Proofs.YtfhpfbakoiekpaaGreatDoor
