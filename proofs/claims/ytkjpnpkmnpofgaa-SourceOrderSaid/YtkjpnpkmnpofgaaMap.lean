/- A map in memory as a function from keys to values: what a look-up, a store and a delete do to it. -/
import Derived.Test.YtkjpnpkmnpofgaaBase
import Derived.MapKept
import Derived.Maps.OwnSet
import Derived.Maps.OwnOps
namespace Go.Proofs.Ytkjpnpkmnpofgaa
open Go.RowKit Go.MapKept

/-- A kind of keys. -/
structure KV {κ : Type} (kv : κ → Value) (d : TypeDesc) : Prop where
  inj : ∀ a b, kv a = kv b → a = b
  key : ∀ a, IsKey d (kv a)

theorem kvInt : KV (Value.int .i64) (.int .i64) := ⟨fun a b h => by injection h, fun _ => rfl⟩
theorem kvStr : KV Value.string .string := ⟨fun a b h => by injection h, fun _ => trivial⟩

/-- The map in block b holds g. -/
def MapIs {κ : Type} (kv : κ → Value) (w : World) (b : Nat) (g : κ → Option Value) : Prop :=
  ∃ es clock, w.heap[b]? = some (.map es clock) ∧ Stamped es clock ∧ (∀ x ∈ es.toList, ∃ k, x.key = kv k) ∧ ∀ k v, g k = some v ↔ ∃ x ∈ es.toList, x.key = kv k ∧ x.val = v

section
variable {κ : Type} {kv : κ → Value} {d : TypeDesc} {P : Program} {w : World} {b : Nat} {g : κ → Option Value} {t kt et : TypeId}

theorem MapIs.same {w' : World} (h : MapIs kv w b g) (hb : w'.heap[b]? = w.heap[b]?) : MapIs kv w' b g := by
  obtain ⟨es, clock, h1, h2⟩ := h
  exact ⟨es, clock, hb.trans h1, h2⟩

theorem MapIs.lt (h : MapIs kv w b g) : b < w.heap.size := by
  obtain ⟨es, clock, h1, h2⟩ := h
  exact (Array.getElem?_eq_some_iff.1 h1).1

theorem MapIs.made (w : World) : MapIs kv (w.alloc (.map #[] 0)) w.heap.size (fun _ => none) :=
  ⟨#[], 0, (heap_alloc w _).1, stamped_empty 0, by simp, by simp⟩

theorem MapIs.made2 (w : World) (b : Nat) (h : b = w.heap.size) : MapIs kv (w.alloc (.map #[] 0)) b (fun _ => none) := by subst h; exact MapIs.made w

theorem MapIs.alloc (h : MapIs kv w b g) (o : Obj) : MapIs kv (w.alloc o) b g := h.same (Below.heap_alloc _ _ _ h.lt)
theorem MapIs.drew (h : MapIs kv w b g) : MapIs kv w.drew b g := h
theorem MapIs.below {w' : World} (h : MapIs kv w b g) (hb : Below w.heap.size w w') : MapIs kv w' b g := h.same (hb.block _ h.lt)
theorem MapIs.blk {c : List Value} {t : TypeId} {b' : Nat} (h : MapIs kv w b g) (h' : Blk w b' c t) : b' ≠ b := by
  rintro rfl
  obtain ⟨es, clock, h1, _⟩ := h
  unfold Blk at h'
  rw [h1] at h'
  cases h'
theorem MapIs.setCell (h : MapIs kv w b g) (b' o : Nat) (v : Value) : MapIs kv (w.setCell ⟨b', o, none⟩ v) b g := by
  obtain ⟨es, clock, h1, h2⟩ := h
  refine ⟨es, clock, ?_, h2⟩
  show (w.heap.modify b' _)[b]? = _
  rw [Array.getElem?_modify]
  split
  · rw [h1]; rfl
  · exact h1

theorem MapIs.lookup (h : MapIs kv w b g) (V : KV kv d) (ht : P.underlying t = some (.map kt et)) (hd : P.underlying kt = some d) {z : Value} (hz : (zeroValue et).run P w = .ok z w) (k : κ) :
    (Instr.lookup t (.map (some b)) (kv k) false).run P w = .ok ((g k).getD z) w := by
  obtain ⟨es, clock, hb, hs, hks, hg⟩ := h
  have hks' : ∀ x ∈ es.toList, IsKey d x.key := fun x hx => let ⟨k, e⟩ := hks x hx; e ▸ V.key k
  rcases findNow_spec (V.key k) es.toList 0 hks' with ⟨h1, h2⟩ | ⟨j, e, h1, h2, h3⟩
  · have hn : g k = none := by
      cases hgk : g k with
      | none => rfl
      | some v => obtain ⟨x, hx, hxk, _⟩ := (hg k v).1 hgk; exact absurd hxk (h2 x hx)
    simp [Instr.lookup, run_underlying ht, Go.MapKept.run_getObj_map hb, run_checkKey hd (V.key k), run_findKey hd h1, hz, Result.andThen, hn]
  · have hm : e ∈ es.toList := List.mem_of_getElem? h2
    have hn : g k = some e.val := (hg k _).2 ⟨e, hm, h3, rfl⟩
    simp [Instr.lookup, run_underlying ht, Go.MapKept.run_getObj_map hb, run_checkKey hd (V.key k), run_findKey hd h1, Result.andThen, hn]

theorem MapIs.lookup_ok (h : MapIs kv w b g) (V : KV kv d) (ht : P.underlying t = some (.map kt et)) (hd : P.underlying kt = some d) {z : Value} (hz : (zeroValue et).run P w = .ok z w) (k : κ) :
    (Instr.lookup t (.map (some b)) (kv k) true).run P w = .ok (.tuple #[(g k).getD z, .bool (g k).isSome]) w := by
  obtain ⟨es, clock, hb, hs, hks, hg⟩ := h
  have hks' : ∀ x ∈ es.toList, IsKey d x.key := fun x hx => let ⟨k, e⟩ := hks x hx; e ▸ V.key k
  rcases findNow_spec (V.key k) es.toList 0 hks' with ⟨h1, h2⟩ | ⟨j, e, h1, h2, h3⟩
  · have hn : g k = none := by
      cases hgk : g k with
      | none => rfl
      | some v => obtain ⟨x, hx, hxk, _⟩ := (hg k v).1 hgk; exact absurd hxk (h2 x hx)
    simp [Instr.lookup, run_underlying ht, Go.MapKept.run_getObj_map hb, run_checkKey hd (V.key k), run_findKey hd h1, hz, Result.andThen, hn]
  · have hm : e ∈ es.toList := List.mem_of_getElem? h2
    have hn : g k = some e.val := (hg k _).2 ⟨e, hm, h3, rfl⟩
    simp [Instr.lookup, run_underlying ht, Go.MapKept.run_getObj_map hb, run_checkKey hd (V.key k), run_findKey hd h1, Result.andThen, hn]

/-- A function with one place set. -/
def upd [DecidableEq κ] (g : κ → Option Value) (k : κ) (v : Option Value) : κ → Option Value := fun x => if x = k then v else g x

theorem upd_same [DecidableEq κ] (g : κ → Option Value) (k : κ) (v : Option Value) : upd g k v k = v := by simp [upd]
theorem upd_other [DecidableEq κ] (g : κ → Option Value) {k x : κ} (v : Option Value) (h : x ≠ k) : upd g k v x = g x := by simp [upd, h]

theorem grownBy_set {o : Obj} (b : Nat) (o' : Obj) (hb : w.heap[b]? = some o) : w.grownBy { w with heap := w.heap.setIfInBounds b o' } (some b) :=
  ⟨rfl, rfl, rfl, by simp, fun i _ hi => (heap_set hb).2 i (fun e => hi (by rw [e]))⟩

theorem Array.getElem_mem_toList {α : Type} {a : Array α} {i : Nat} (h : i < a.size) : a[i] ∈ a.toList := by simp

theorem MapIs.update [DecidableEq κ] (h : MapIs kv w b g) (V : KV kv d) (ht : P.underlying t = some (.map kt et)) (hd : P.underlying kt = some d) (k : κ) (v : Value) :
    ∃ w', (Instr.mapUpdate t (.map (some b)) (kv k) v).run P w = .ok () w' ∧ MapIs kv w' b (upd g k (some v)) ∧ w.grownBy w' (some b) ∧ w'.heap.size = w.heap.size := by
  obtain ⟨es, clock, hb, hs, hks, hg⟩ := h
  have hks' : ∀ x ∈ es.toList, IsKey d x.key := fun x hx => let ⟨k, e⟩ := hks x hx; e ▸ V.key k
  rcases findNow_spec (V.key k) es.toList 0 hks' with ⟨h1, h2⟩ | ⟨j, e, h1, h2, h3⟩
  · refine ⟨{ w with heap := w.heap.setIfInBounds b (.map (es.push { key := kv k, val := v, born := clock }) (clock + 1)) }, ?_, ⟨_, _, (heap_set hb).1, stamped_push hs h2, ?_, ?_⟩, grownBy_set b _ hb, by simp⟩
    · simp [Instr.mapUpdate, run_underlying ht, Go.MapKept.run_getObj_map hb, run_checkKey hd (V.key k), run_findKey hd h1, Go.MapKept.run_setObj_map _ hb, Result.andThen]
    · intro x hx
      simp only [Array.toList_push, List.mem_append, List.mem_singleton] at hx
      rcases hx with hx | rfl
      · exact hks x hx
      · exact ⟨k, rfl⟩
    · intro k' v'
      simp only [Array.toList_push, List.mem_append, List.mem_singleton, upd]
      by_cases hk : k' = k
      · subst hk
        rw [if_pos rfl]
        constructor
        · intro e; cases e; exact ⟨_, .inr rfl, rfl, rfl⟩
        · rintro ⟨x, hx | rfl, h4, h5⟩
          · exact absurd h4 (h2 x hx)
          · rw [← h5]
      · rw [if_neg hk, hg]
        constructor
        · rintro ⟨x, hx, h4⟩; exact ⟨x, .inl hx, h4⟩
        · rintro ⟨x, hx | rfl, h4, h5⟩
          · exact ⟨x, hx, h4, h5⟩
          · exact absurd (V.inj _ _ h4).symm hk
  · have hj : es[j]? = some e := by simpa using h2
    have hm : e ∈ es.toList := List.mem_of_getElem? h2
    have hkey : ∀ e', es[j]? = some e' → ({ e' with key := kv k, val := v } : MapEntry).key = e'.key := fun e' he' => by rw [hj] at he'; cases he'; exact h3.symm
    have hjl : j < es.size := (Array.getElem?_eq_some_iff.1 hj).1
    have hej : es[j] = e := by rw [Array.getElem?_eq_getElem hjl] at hj; exact Option.some.inj hj
    refine ⟨{ w with heap := w.heap.setIfInBounds b (.map (es.modify j fun e => { e with key := kv k, val := v }) clock) }, ?_, ⟨_, _, (heap_set hb).1, stamped_modify hs _ _ (fun _ _ => rfl) (fun e' _ he' => hkey e' he'), ?_, ?_⟩, grownBy_set b _ hb, by simp⟩
    · simp [Instr.mapUpdate, run_underlying ht, Go.MapKept.run_getObj_map hb, run_checkKey hd (V.key k), run_findKey hd h1, hj, h3, run_keyThatStays (V.key k), Go.MapKept.run_setObj_map _ hb, Result.andThen]
    · intro x hx
      obtain ⟨i, hi, rfl⟩ := List.mem_iff_getElem.1 hx
      simp only [Array.length_toList, Array.size_modify] at hi
      simp only [Array.getElem_toList, Array.getElem_modify]
      split
      · exact ⟨k, rfl⟩
      · exact hks _ (by simp)
    · intro k' v'
      simp only [upd]
      by_cases hk : k' = k
      · subst hk
        rw [if_pos rfl]
        constructor
        · intro e'; cases e'
          refine ⟨(es.modify j fun e => { e with key := kv k', val := v })[j]'(by simpa using hjl), Array.getElem_mem_toList _, ?_, ?_⟩ <;> rw [Array.getElem_modify, if_pos rfl]
        · rintro ⟨x, hx, h4, h5⟩
          obtain ⟨i, hi, rfl⟩ := List.mem_iff_getElem.1 hx
          simp only [Array.length_toList, Array.size_modify] at hi
          simp only [Array.getElem_toList, Array.getElem_modify] at h4 h5
          by_cases hij : j = i
          · rw [if_pos hij] at h5; rw [← h5]
          · rw [if_neg hij] at h4 h5
            have hpw := (stamped_iff es clock).1 hs |>.2.2
            exfalso
            have hne : ∀ (p q : Nat) (hp : p < es.size) (hq : q < es.size), p < q → es[p].key ≠ es[q].key := fun p q hp hq hpq => by
              have := List.pairwise_iff_getElem.1 hpw p q (by simpa using hp) (by simpa using hq) hpq
              simpa using this
            rcases Nat.lt_or_gt_of_ne hij with hlt | hlt
            · exact hne j i hjl hi hlt (by rw [hej, h3, h4])
            · exact hne i j hi hjl hlt (by rw [hej, h3, h4])
      · rw [if_neg hk, hg]
        constructor
        · rintro ⟨x, hx, h4, h5⟩
          obtain ⟨i, hi, rfl⟩ := List.mem_iff_getElem.1 hx
          simp only [Array.length_toList] at hi
          simp only [Array.getElem_toList] at h4 h5
          have hij : j ≠ i := fun e' => by subst e'; rw [hej, h3] at h4; exact hk (V.inj _ _ h4).symm
          refine ⟨(es.modify j fun e => { e with key := kv k, val := v })[i]'(by simpa using hi), Array.getElem_mem_toList _, ?_, ?_⟩ <;> simp only [Array.getElem_modify, if_neg hij] <;> assumption
        · rintro ⟨x, hx, h4, h5⟩
          obtain ⟨i, hi, rfl⟩ := List.mem_iff_getElem.1 hx
          simp only [Array.length_toList, Array.size_modify] at hi
          simp only [Array.getElem_toList, Array.getElem_modify] at h4 h5
          by_cases hij : j = i
          · rw [if_pos hij] at h4; exact absurd (V.inj _ _ h4).symm hk
          · rw [if_neg hij] at h4 h5
            exact ⟨es[i], by simp, h4, h5⟩

theorem MapIs.delete [DecidableEq κ] (h : MapIs kv w b g) (V : KV kv d) (ht : P.underlying t = some (.map kt et)) (hd : P.underlying kt = some d) (k : κ) (ty : TypeId) :
    ∃ w', (Builtin.delete_ #[t, kt] ty #[.map (some b), kv k]).run P w = .ok (.tuple #[]) w' ∧ MapIs kv w' b (upd g k none) ∧ w.grownBy w' (some b) ∧ w'.heap.size = w.heap.size := by
  obtain ⟨es, clock, hb, hs, hks, hg⟩ := h
  have hks' : ∀ x ∈ es.toList, IsKey d x.key := fun x hx => let ⟨k, e⟩ := hks x hx; e ▸ V.key k
  rcases findNow_spec (V.key k) es.toList 0 hks' with ⟨h1, h2⟩ | ⟨j, e, h1, h2, h3⟩
  · refine ⟨{ w with heap := w.heap.setIfInBounds b (.map es clock) }, ?_, ⟨_, _, (heap_set hb).1, hs, hks, ?_⟩, grownBy_set b _ hb, by simp⟩
    · simp [Builtin.delete_, run_underlying ht, Go.MapKept.run_getObj_map hb, run_checkKey hd (V.key k), run_findKey hd h1, Go.MapKept.run_setObj_map _ hb, Result.andThen]
    · intro k' v'
      simp only [upd]
      by_cases hk : k' = k
      · subst hk
        rw [if_pos rfl]
        constructor
        · intro e; cases e
        · rintro ⟨x, hx, h4, _⟩; exact absurd h4 (h2 x hx)
      · rw [if_neg hk, hg]
  · have hjl : j < es.size := by
      have := (List.getElem?_eq_some_iff.1 h2).1
      simpa using this
    have hm : e ∈ es.toList := List.mem_of_getElem? h2
    have he : es.eraseIdxIfInBounds j = es.eraseIdx j hjl := by simp [Array.eraseIdxIfInBounds, hjl]
    refine ⟨{ w with heap := w.heap.setIfInBounds b (.map (es.eraseIdxIfInBounds j) clock) }, ?_, ⟨_, _, (heap_set hb).1, stamped_erase hs _, ?_, ?_⟩, grownBy_set b _ hb, by simp⟩
    · simp [Builtin.delete_, run_underlying ht, Go.MapKept.run_getObj_map hb, run_checkKey hd (V.key k), run_findKey hd h1, Go.MapKept.run_setObj_map _ hb, Result.andThen]
    · intro x hx
      rw [he, Array.toList_eraseIdx] at hx
      exact hks x ((List.eraseIdx_sublist _ _).subset hx)
    · intro k' v'
      rw [he, Array.toList_eraseIdx]
      have hmem : ∀ x, x ∈ es.toList.eraseIdx j ↔ x ∈ es.toList ∧ x.key ≠ kv k := by
        intro x
        have hpw := (stamped_iff es clock).1 hs |>.2.2
        constructor
        · intro hx
          refine ⟨(List.eraseIdx_sublist _ _).subset hx, fun hkx => ?_⟩
          obtain ⟨i, hij, hi⟩ := List.mem_eraseIdx_iff_getElem?.1 hx
          have hne : ∀ (p q : Nat) (a c : MapEntry), es.toList[p]? = some a → es.toList[q]? = some c → p < q → a.key ≠ c.key := fun p q a c hp hq hpq => by
            obtain ⟨hp1, hp2⟩ := List.getElem?_eq_some_iff.1 hp
            obtain ⟨hq1, hq2⟩ := List.getElem?_eq_some_iff.1 hq
            have := List.pairwise_iff_getElem.1 hpw p q hp1 hq1 hpq
            rw [hp2, hq2] at this
            exact this
          rcases Nat.lt_or_gt_of_ne hij with hlt | hlt
          · exact hne i j _ _ hi h2 hlt (by rw [hkx, h3])
          · exact hne j i _ _ h2 hi hlt (by rw [hkx, h3])
        · rintro ⟨hx, hkx⟩
          obtain ⟨i, hi, hxi⟩ := List.mem_iff_getElem.1 hx
          refine List.mem_eraseIdx_iff_getElem?.2 ⟨i, fun e' => ?_, by rw [List.getElem?_eq_getElem hi, hxi]⟩
          subst e'
          rw [List.getElem?_eq_getElem hi, hxi] at h2
          cases h2
          exact hkx h3
      simp only [upd]
      by_cases hk : k' = k
      · subst hk
        rw [if_pos rfl]
        constructor
        · intro e; cases e
        · rintro ⟨x, hx, h4, _⟩; exact absurd h4 ((hmem x).1 hx).2
      · rw [if_neg hk, hg]
        constructor
        · rintro ⟨x, hx, h4, h5⟩
          exact ⟨x, (hmem x).2 ⟨hx, fun e' => hk (V.inj _ _ (h4.symm.trans e'))⟩, h4, h5⟩
        · rintro ⟨x, hx, h4, h5⟩
          exact ⟨x, ((hmem x).1 hx).1, h4, h5⟩

end

/-! ### at the operation, for the walk -/
section
variable {κ : Type} {kv : κ → Value} {d : TypeDesc} {P : Program} {w : World} {ops : Array Oper} {rest : List Oper} {o : Oper} {a : Act} {Q : Exit → Act → World → Prop}

theorem wpList_mlook (g : κ → Option Value) (b : Nat) (k : κ) (V : KV kv d) (t kt et : TypeId) (ht : P.underlying t = some (.map kt et)) (hd : P.underlying kt = some d) (z : Value) (hz : ∀ w, (zeroValue et).run P w = .ok z w)
    (hg : o.guard = none) (m x : Operand) (hop : o.op = Op.lookup t m x false) (hm : a.eval m = .map (some b)) (hx : a.eval x = kv k) (h : MapIs kv w b g)
    (hK : wpList P ops Q rest (a.put o.dst ((g k).getD z)) w) : wpList P ops Q (o :: rest) a w := by
  refine wpList_plain hg fun K' hK' => ?_
  unfold Oper.wp
  simp [execOp, hop, hm, hx, h.lookup V ht hd (hz w) k, Result.andThen]
  exact hK' _ _ hK

theorem wpList_mlook_ok (g : κ → Option Value) (b : Nat) (k : κ) (V : KV kv d) (t kt et : TypeId) (ht : P.underlying t = some (.map kt et)) (hd : P.underlying kt = some d) (z : Value) (hz : ∀ w, (zeroValue et).run P w = .ok z w)
    (hg : o.guard = none) (m x : Operand) (hop : o.op = Op.lookup t m x true) (hm : a.eval m = .map (some b)) (hx : a.eval x = kv k) (h : MapIs kv w b g)
    (hK : wpList P ops Q rest (a.put o.dst (.tuple #[(g k).getD z, .bool (g k).isSome])) w) : wpList P ops Q (o :: rest) a w := by
  refine wpList_plain hg fun K' hK' => ?_
  unfold Oper.wp
  simp [execOp, hop, hm, hx, h.lookup_ok V ht hd (hz w) k, Result.andThen]
  exact hK' _ _ hK

theorem wpList_mput [DecidableEq κ] (g : κ → Option Value) (b : Nat) (k : κ) (v : Value) (V : KV kv d) (t kt et : TypeId) (ht : P.underlying t = some (.map kt et)) (hd : P.underlying kt = some d)
    (hg : o.guard = none) (m x y : Operand) (hop : o.op = Op.mapUpdate t m x y) (hm : a.eval m = .map (some b)) (hx : a.eval x = kv k) (hy : a.eval y = v) (h : MapIs kv w b g)
    (hK : ∀ w', MapIs kv w' b (upd g k (some v)) → w.grownBy w' (some b) → w'.heap.size = w.heap.size → wpList P ops Q rest (a.put o.dst undef) w') : wpList P ops Q (o :: rest) a w := by
  refine wpList_plain hg fun K' hK' => ?_
  obtain ⟨w', hrun, r1, r2, r3⟩ := h.update V ht hd k v
  unfold Oper.wp
  simp [execOp, hop, hm, hx, hy, hrun, Result.andThen]
  exact hK' _ _ (hK w' r1 r2 r3)

theorem wpList_mdel [DecidableEq κ] (g : κ → Option Value) (b : Nat) (k : κ) (V : KV kv d) (t kt et : TypeId) (ht : P.underlying t = some (.map kt et)) (hd : P.underlying kt = some d)
    (hg : o.guard = none) (m x : Operand) (hop : o.op = Op.call { callee := Callee.builtin Builtin.delete, args := #[m, x], argTypes := #[t, kt] }) (hm : a.eval m = .map (some b)) (hx : a.eval x = kv k) (h : MapIs kv w b g)
    (hK : ∀ w', MapIs kv w' b (upd g k none) → w.grownBy w' (some b) → w'.heap.size = w.heap.size → wpList P ops Q rest (a.put o.dst (.tuple #[])) w') : wpList P ops Q (o :: rest) a w := by
  refine wpList_plain hg fun K' hK' => ?_
  obtain ⟨w', hrun, r1, r2, r3⟩ := h.delete V ht hd k o.type
  unfold Oper.wp
  simp [execOp, hop, resolve, invoke, builtin, hm, hx, hrun, Result.andThen]
  exact hK' _ _ (hK w' r1 r2 r3)

end

end Go.Proofs.Ytkjpnpkmnpofgaa
