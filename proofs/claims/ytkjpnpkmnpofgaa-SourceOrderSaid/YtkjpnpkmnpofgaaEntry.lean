/- 'm[k], m2[k] = a, b': an entry is made ready, and stored into afterwards. -/
import Derived.Test.YtkjpnpkmnpofgaaMap
namespace Go.Proofs.Ytkjpnpkmnpofgaa
open Go.RowKit Go.MapKept

section
variable {κ : Type} {kv : κ → Value} {d : TypeDesc} {P : Program} {w : World} {b : Nat} {g : κ → Option Value} {t kt et : TypeId}

/-- The map holds g but for the entry of k, which is there and bears the stamp c. -/
def MapE (kv : κ → Value) (w : World) (b : Nat) (g : κ → Option Value) (k : κ) (c : Nat) : Prop :=
  ∃ es clock, w.heap[b]? = some (.map es clock) ∧ Stamped es clock ∧ (∀ x ∈ es.toList, ∃ k, x.key = kv k) ∧ (∀ k' v, k' ≠ k → (g k' = some v ↔ ∃ x ∈ es.toList, x.key = kv k' ∧ x.val = v)) ∧
    ∃ (j : Nat) (e : MapEntry), es[j]? = some e ∧ e.key = kv k ∧ e.born = c

theorem MapIs.entry [DecidableEq κ] (h : MapIs kv w b g) (V : KV kv d) (ht : P.underlying t = some (.map kt et)) (hd : P.underlying kt = some d) {z : Value} (hz : (zeroValue et).run P w = .ok z w) (k : κ) :
    ∃ (w' : World) (v0 : Value) (c : Nat), (Instr.mapEntry t (.map (some b)) (kv k)).run P w = .ok (.tuple #[v0, goInt (c : Int)]) w' ∧ MapE kv w' b g k c ∧ w.grownBy w' (some b) ∧ w'.heap.size = w.heap.size := by
  obtain ⟨es, clock, hb, hs, hks, hg⟩ := h
  have hks' : ∀ x ∈ es.toList, IsKey d x.key := fun x hx => let ⟨k, e⟩ := hks x hx; e ▸ V.key k
  rcases findNow_spec (V.key k) es.toList 0 hks' with ⟨h1, h2⟩ | ⟨j, e, h1, h2, h3⟩
  · refine ⟨{ w with heap := w.heap.setIfInBounds b (.map (es.push { key := kv k, val := z, born := clock }) (clock + 1)) }, z, clock, ?_, ⟨_, _, (heap_set hb).1, stamped_push hs h2, ?_, ?_, es.size, { key := kv k, val := z, born := clock }, by simp, rfl, rfl⟩, grownBy_set b _ hb, by simp⟩
    · simp [Instr.mapEntry, run_underlying ht, Go.MapKept.run_getObj_map hb, run_checkKey hd (V.key k), run_findKey hd h1, hz, Go.MapKept.run_setObj_map _ hb, Result.andThen]
    · intro x hx
      simp only [Array.toList_push, List.mem_append, List.mem_singleton] at hx
      rcases hx with hx | rfl
      · exact hks x hx
      · exact ⟨k, rfl⟩
    · intro k' v' hk
      simp only [Array.toList_push, List.mem_append, List.mem_singleton]
      rw [hg]
      constructor
      · rintro ⟨x, hx, h4⟩; exact ⟨x, .inl hx, h4⟩
      · rintro ⟨x, hx | rfl, h4, h5⟩
        · exact ⟨x, hx, h4, h5⟩
        · exact absurd (V.inj _ _ h4).symm hk
  · have hj : es[j]? = some e := by simpa using h2
    have hjl : j < es.size := (Array.getElem?_eq_some_iff.1 hj).1
    have hej : es[j] = e := by rw [Array.getElem?_eq_getElem hjl] at hj; exact Option.some.inj hj
    have hkey : ∀ e', es[j]? = some e' → ({ e' with key := kv k } : MapEntry).key = e'.key := fun e' he' => by rw [hj] at he'; cases he'; exact h3.symm
    have hsame : es.modify j (fun e => { e with key := kv k }) = es := by
      apply Array.ext (by simp)
      intro i h4 h5
      rw [Array.getElem_modify]
      split
      · rename_i hji; subst hji; rw [hej, ← h3]
      · rfl
    refine ⟨{ w with heap := w.heap.setIfInBounds b (.map es clock) }, e.val, e.born, ?_, ⟨_, _, (heap_set hb).1, hs, hks, fun k' v' _ => hg k' v', j, e, hj, h3, rfl⟩, grownBy_set b _ hb, by simp⟩
    simp [Instr.mapEntry, run_underlying ht, Go.MapKept.run_getObj_map hb, run_checkKey hd (V.key k), run_findKey hd h1, hj, h3, run_keyThatStays (V.key k), Go.MapKept.run_setObj_map _ hb, Result.andThen, hsame]

theorem MapE.store [DecidableEq κ] {k : κ} {c : Nat} (h : MapE kv w b g k c) (V : KV kv d) (v : Value) :
    ∃ w', (Instr.entryStore t (.map (some b)) (goInt (c : Int)) v).run P w = .ok () w' ∧ MapIs kv w' b (upd g k (some v)) ∧ w.grownBy w' (some b) ∧ w'.heap.size = w.heap.size := by
  obtain ⟨es, clock, hb, hs, hks, hg, j, e, hj, h3, h4⟩ := h
  have hjl : j < es.size := (Array.getElem?_eq_some_iff.1 hj).1
  have hej : es[j] = e := by rw [Array.getElem?_eq_getElem hjl] at hj; exact Option.some.inj hj
  have hborn : ∀ (p q : Nat) (hp : p < es.size) (hq : q < es.size), p < q → es[p].born ≠ es[q].born := fun p q hp hq hpq => by
    have := List.pairwise_iff_getElem.1 hs.2.1 p q (by simpa using hp) (by simpa using hq) hpq
    simpa using this
  have hkeys : ∀ (p q : Nat) (hp : p < es.size) (hq : q < es.size), p < q → es[p].key ≠ es[q].key := fun p q hp hq hpq => by
    have := List.pairwise_iff_getElem.1 hs.2.2 p q (by simpa using hp) (by simpa using hq) hpq
    simpa using this
  have hf : es.findIdx? (fun e => (e.born : Int) == (c : Int)) = some j := by
    rw [Array.findIdx?_eq_some_iff_getElem]
    refine ⟨hjl, by rw [hej, h4]; simp, fun i hi => ?_⟩
    have := hborn i j (by omega) hjl hi
    rw [hej, h4] at this
    simp; omega
  have huniq : ∀ i (hi : i < es.size), es[i].key = kv k → i = j := fun i hi he => by
    rcases Nat.lt_trichotomy i j with h5 | h5 | h5
    · exact absurd (he.trans (h3.symm.trans (by rw [hej]))) (hkeys i j hi hjl h5)
    · exact h5
    · exact absurd ((show es[j].key = kv k by rw [hej, h3]).trans he.symm) (hkeys j i hjl hi h5)
  refine ⟨{ w with heap := w.heap.setIfInBounds b (.map (es.modify j fun e => { e with val := v }) clock) }, ?_, ⟨_, _, (heap_set hb).1, stamped_modify hs _ _ (fun _ _ => rfl) (fun _ _ _ => rfl), ?_, ?_⟩, grownBy_set b _ hb, by simp⟩
  · simp [Instr.entryStore, Go.MapKept.run_getObj_map hb, goInt, asInt, asIntOf, hf, Go.MapKept.run_setObj_map _ hb, Result.andThen]
  · intro x hx
    obtain ⟨i, hi, rfl⟩ := List.mem_iff_getElem.1 hx
    simp only [Array.length_toList, Array.size_modify] at hi
    simp only [Array.getElem_toList, Array.getElem_modify]
    split
    · exact hks es[i] (by simp)
    · exact hks _ (by simp)
  · intro k' v'
    simp only [upd]
    by_cases hk : k' = k
    · subst hk
      rw [if_pos rfl]
      constructor
      · intro e'; cases e'
        refine ⟨(es.modify j fun e => { e with val := v })[j]'(by simpa using hjl), Array.getElem_mem_toList _, ?_, ?_⟩ <;> rw [Array.getElem_modify, if_pos rfl]
        rw [hej, h3]
      · rintro ⟨x, hx, h5, h6⟩
        obtain ⟨i, hi, rfl⟩ := List.mem_iff_getElem.1 hx
        simp only [Array.length_toList, Array.size_modify] at hi
        simp only [Array.getElem_toList, Array.getElem_modify] at h5 h6
        by_cases hij : j = i
        · rw [if_pos hij] at h6; rw [← h6]
        · rw [if_neg hij] at h5
          exact absurd (huniq i hi h5).symm hij
    · rw [if_neg hk, hg k' v' hk]
      constructor
      · rintro ⟨x, hx, h5, h6⟩
        obtain ⟨i, hi, rfl⟩ := List.mem_iff_getElem.1 hx
        simp only [Array.length_toList] at hi
        simp only [Array.getElem_toList] at h5 h6
        have hij : j ≠ i := fun e' => by subst e'; rw [hej, h3] at h5; exact hk (V.inj _ _ h5).symm
        refine ⟨(es.modify j fun e => { e with val := v })[i]'(by simpa using hi), Array.getElem_mem_toList _, ?_, ?_⟩ <;> simp only [Array.getElem_modify, if_neg hij] <;> assumption
      · rintro ⟨x, hx, h5, h6⟩
        obtain ⟨i, hi, rfl⟩ := List.mem_iff_getElem.1 hx
        simp only [Array.length_toList, Array.size_modify] at hi
        simp only [Array.getElem_toList, Array.getElem_modify] at h5 h6
        by_cases hij : j = i
        · rw [if_pos hij] at h5
          subst hij
          rw [hej, h3] at h5
          exact absurd (V.inj _ _ h5).symm hk
        · rw [if_neg hij] at h5 h6
          exact ⟨es[i], by simp, h5, h6⟩

theorem wp_mentry [DecidableEq κ] {o : Oper} {a : Act} {w : World} {K : Act → World → Prop} {Q : Exit → Act → World → Prop} {g : κ → Option Value} (b : Nat) (k : κ) (V : KV kv d) (t kt et : TypeId) (ht : P.underlying t = some (.map kt et)) (hd : P.underlying kt = some d)
    {z : Value} (hz : (zeroValue et).run P w = .ok z w) (m x : Operand) (hop : o.op = Op.mapEntry t m x) (hm : a.eval m = .map (some b)) (hx : a.eval x = kv k) (h : MapIs kv w b g)
    (hK : ∀ w' v0 (c : Nat), MapE kv w' b g k c → w.grownBy w' (some b) → w'.heap.size = w.heap.size → K (a.put o.dst (.tuple #[v0, goInt (c : Int)])) w') : o.wp P a w K Q := by
  obtain ⟨w', v0, c, hrun, r1, r2, r3⟩ := h.entry V ht hd hz k
  unfold Oper.wp
  simp [execOp, hop, hm, hx, hrun, Result.andThen]
  exact hK w' v0 c r1 r2 r3

theorem wp_mstore [DecidableEq κ] {o : Oper} {a : Act} {w : World} {K : Act → World → Prop} {Q : Exit → Act → World → Prop} {g : κ → Option Value} (b : Nat) (k : κ) (c : Nat) (v : Value) (V : KV kv d) (t : TypeId)
    (m x y : Operand) (hop : o.op = Op.entryStore t m x y) (hm : a.eval m = .map (some b)) (hx : a.eval x = goInt (c : Int)) (hy : a.eval y = v) (h : MapE kv w b g k c)
    (hK : ∀ w', MapIs kv w' b (upd g k (some v)) → w.grownBy w' (some b) → w'.heap.size = w.heap.size → K (a.put o.dst undef) w') : o.wp P a w K Q := by
  obtain ⟨w', hrun, r1, r2, r3⟩ := h.store (P := P) (t := t) V v
  unfold Oper.wp
  simp [execOp, hop, hm, hx, hy, hrun, Result.andThen]
  exact hK w' r1 r2 r3

end

end Go.Proofs.Ytkjpnpkmnpofgaa
