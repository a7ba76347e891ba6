/- A row of ints of the call's own that is taken from at its head and appended to at its end ('queue = queue[1:]'). -/
import Derived.Test.YtkjpnpkmnpofgaaOps
namespace Go.Proofs.Ytkjpnpkmnpofgaa
open Go.RowKit

/-- The slice v holds l; its block is the call's own, no matter at which place of it the slice begins. -/
def QRow (base : Nat) (w : World) (v : Value) (l : List Int) : Prop :=
  Fits l ∧ ((v = .slice none 0 0 ∧ l = []) ∨
    ∃ g off cap cur, v = .slice (some ⟨g, off, none⟩) l.length cap ∧ base ≤ g ∧ w.heap[g]? = some (.cells cur 3 (0, 0)) ∧ l.length ≤ cap ∧ cap ≤ maxLen ∧ off + cap ≤ cur.size ∧ ∀ i, i < l.length → cur[off + i]? = some (.int .i64 (ix l i)))

theorem QRow.nil (base : Nat) (w : World) : QRow base w (.slice none 0 0) [] := ⟨fun i => by simp [ix], .inl ⟨rfl, rfl⟩⟩

theorem QRow.kept {base : Nat} {w w' : World} {v : Value} {l : List Int} (h : QRow base w v l) (hs : ∀ i, base ≤ i → i < w.heap.size → v.ownBlock = some i → w'.heap[i]? = w.heap[i]?) : QRow base w' v l := by
  refine ⟨h.1, ?_⟩
  rcases h.2 with h2 | ⟨g, off, cap, cur, rfl, hb, hg, r⟩
  · exact .inl h2
  · exact .inr ⟨g, off, cap, cur, rfl, hb, (hs g hb (Array.getElem?_eq_some_iff.1 hg).1 rfl).trans hg, r⟩

theorem ix_last (l : List Int) (x : Int) (i : Nat) (hi : i < (l ++ [x]).length) : ix (l ++ [x]) i = if i < l.length then ix l i else x := by
  simp only [List.length_append, List.length_singleton] at hi
  split
  · rename_i h; simp [ix, List.getElem?_append_left h]
  · obtain rfl : i = l.length := by omega
    simp [ix]

theorem run_appendQ (base : Nat) (T ty : TypeId) (hT : Try.prog.underlying T = some (.slice 3)) (w : World) (v : Value) (l : List Int) (h : QRow base w v l) (g0 c : Nat) (x : Int) (hb : Blk w g0 [.int .i64 x] 3) (hx : InI x)
    (hlen : (l.length + 1) * 8 ≤ 140737488351232) (hbase : base ≤ w.heap.size) :
    ∃ v' w', (Builtin.append_ #[T, T] ty #[v, .slice (some ⟨g0, 0, none⟩) 1 c]).run Try.prog w = .ok v' w' ∧ QRow base w' v' (l ++ [x]) ∧ w.grownBy w' v.ownBlock ∧ (v'.ownBlock = v.ownBlock ∨ v'.ownBlock = some w.heap.size) := by
  have hi := infoI
  obtain ⟨i, hi, he⟩ := Option.map_eq_some_iff.1 hi
  simp only [Prod.mk.injEq] at he
  obtain ⟨hz, hs, hby⟩ := he
  have hn := newsOf hb
  have hfit := h.1.push hx
  have grow : ∀ (cur : Array Value) (cap : Nat), cur.size = cap → cap ≤ maxLen → l.length + 1 ≤ cap → (∀ i, i < l.length → cur[i]? = some (.int .i64 (ix l i))) → cur[l.length]? = some (.int .i64 x) →
      QRow base (w.drew.alloc (.cells cur 3)) (.slice (some ⟨w.heap.size, 0, none⟩) (l.length + 1) cap) (l ++ [x]) ∧ ∀ row, w.grownBy (w.drew.alloc (.cells cur 3)) row := by
    intro cur cap h1 h2 h3 h4 h5
    refine ⟨⟨hfit, .inr ⟨w.heap.size, 0, cap, cur, by simp, hbase, heap_alloc_new w.drew _, by simpa using h3, h2, by omega, fun j hj => ?_⟩⟩, fun row => ⟨rfl, rfl, rfl, by simp, fun k hk _ => Below.heap_alloc w.drew _ _ hk⟩⟩
    rw [ix_last _ _ _ hj, Nat.zero_add]
    split
    · rename_i hlt; exact h4 j hlt
    · simp only [List.length_append, List.length_singleton] at hj
      obtain rfl : j = l.length := by omega
      exact h5
  have zc : ∀ n, (Builtin.zeroCells (Value.int .i64 0).cells n).size = n := fun n => by simp [Builtin.zeroCells, Value.cells]
  rcases h.2 with ⟨rfl, rfl⟩ | ⟨g, off, cap, cur, rfl, hbg, hg, hnc, hcm, hcs, hcell⟩
  · have hr := run_append_nil (P := Try.prog) w T ty 3 i _ hT hi hz ⟨g0, 0, none⟩ 1 c [.int .i64 x] (by rw [hs]; rfl) hn (by omega) (by omega) (by rw [hby]; omega)
    have hge := grownCap_ge w 1 0 3
    obtain ⟨q1, q2⟩ := grow (#[Value.int .i64 x] ++ Builtin.zeroCells (Value.int .i64 0).cells (grownCap w 1 0 3 - 1)) (grownCap w 1 0 3) (by simp only [Array.size_append, List.size_toArray, List.length_cons, List.length_nil, zc]; omega) (grownCap_le_maxLen w 1 0 3 (by unfold maxLen; omega)) hge (fun i hi => absurd hi (Nat.not_lt_zero _)) (by rw [Array.getElem?_append_left (by simp)]; rfl)
    exact ⟨_, _, hr, q1, q2 _, .inr rfl⟩
  · by_cases hroom : l.length + 1 ≤ cap
    · have hf := run_firstCells_some (P := Try.prog) w i.size 1 ⟨g0, 0, none⟩ 1 c [.int .i64 x] (by rw [hs]; rfl) hn
      have hst := run_storeCells_at Try.prog g (off + l.length) 3 [.int .i64 x] 0 cur w hg (by simp only [List.length_singleton]; omega) (by simp [Value.oneCell'])
      simp only [Nat.add_zero, List.length_singleton] at hst
      refine ⟨.slice (some ⟨g, off, none⟩) (l.length + 1) cap, w.setRow g (cur.toList.take (off + l.length) ++ [Value.int .i64 x] ++ cur.toList.drop (off + l.length + 1)).toArray, ?_, ⟨hfit, .inr ⟨g, off, cap, (cur.toList.take (off + l.length) ++ [Value.int .i64 x] ++ cur.toList.drop (off + l.length + 1)).toArray, by simp, hbg, setRow_heap w g cur _ 3 _ hg, by simpa using hroom, hcm, ?_, fun j hj => ?_⟩⟩, ⟨rfl, rfl, rfl, by simp, fun k _ hk => setRow_other w g k _ (fun e => hk (by simp [Value.ownBlock, e]))⟩, .inl rfl⟩
      · have hadd : (⟨g, off, none⟩ : Addr).add (l.length * i.size) = ⟨g, off + l.length, none⟩ := by rw [hs]; unfold Addr.add; split <;> simp_all
        simp [Builtin.append_, run_underlying hT, sizeOf, typeInfo, hi, Builtin.lenOf, hroom, hf, hadd, hst]
      · simp only [List.size_toArray, List.length_append, List.length_take, List.length_drop, Array.length_toList, List.length_singleton]
        omega
      · rw [ix_last _ _ _ hj]
        simp only [List.length_append, List.length_singleton] at hj
        split
        · rename_i hlt
          rw [← hcell j hlt]
          simp only [List.getElem?_toArray, List.append_assoc]
          rw [List.getElem?_append_left (by simp; omega), List.getElem?_take_of_lt (by omega)]
          simp
        · obtain rfl : j = l.length := by omega
          simp only [List.getElem?_toArray, List.append_assoc]
          rw [List.getElem?_append_right (by simp; omega)]
          have : min (off + l.length) cur.size = off + l.length := by omega
          simp [this]
    · have holds : ∀ j u, ((List.range l.length).map (fun i => Value.int .i64 (ix l i)))[j]? = some u → w.cell? ((⟨g, off, none⟩ : Addr).add j) = some u := by
        intro j u hu
        have hadd : (⟨g, off, none⟩ : Addr).add j = ⟨g, off + j, none⟩ := by unfold Addr.add; split <;> simp_all
        have hj : j < l.length := by
          have := (List.getElem?_eq_some_iff.1 hu).1; simpa using this
        rw [hadd, cell_of_row w g (off + j) cur 3 (0, 0) hg, hcell j hj]
        simpa [hj] using hu
      have hr := run_append_grow (P := Try.prog) w T ty 3 i _ hT hi hz ⟨g, off, none⟩ l.length cap ((List.range l.length).map (fun i => Value.int .i64 (ix l i))) (by rw [hs]; simp) holds ⟨g0, 0, none⟩ 1 c [.int .i64 x] (by rw [hs]; rfl) hn (by omega) (by omega) (growslice_fits (by omega) (by rw [hby]; omega))
      have hge := grownCap_ge w (l.length + 1) cap 3
      obtain ⟨q1, q2⟩ := grow (((List.range l.length).map (fun i => Value.int .i64 (ix l i))).toArray ++ [Value.int .i64 x].toArray ++ Builtin.zeroCells (Value.int .i64 0).cells (grownCap w (l.length + 1) cap 3 - (l.length + 1))) (grownCap w (l.length + 1) cap 3) (by simp only [Array.size_append, List.size_toArray, List.length_cons, List.length_nil, List.length_map, List.length_range, zc]; omega) (grownCap_le_maxLen w (l.length + 1) cap 3 (by unfold maxLen; omega)) hge
        (fun j hj => by rw [Array.getElem?_append_left (by simp; omega), Array.getElem?_append_left (by simp; omega)]; simp [hj]) (by rw [Array.getElem?_append_left (by simp), Array.getElem?_append_right (by simp)]; simp)
      exact ⟨_, _, hr, q1, q2 _, .inr rfl⟩

/-- At the operation. -/
theorem wp_appendQ {o : Oper} {a : Act} {w : World} {K : Act → World → Prop} {Q : Exit → Act → World → Prop} (s x : Operand) (T : TypeId) (hT : Try.prog.underlying T = some (.slice 3))
    (ho : o.op = .call { callee := .builtin .append, args := #[s, x], argTypes := #[T, T] }) (base : Nat) (v : Value) (l : List Int) (k : Int) (hs : a.eval s = v) (h : QRow base w v l)
    (g0 c : Nat) (hx : a.eval x = .slice (some ⟨g0, 0, none⟩) 1 c) (hb : Blk w g0 [.int .i64 k] 3) (hk : InI k) (hlen : (l.length + 1) * 8 ≤ 140737488351232) (hbase : base ≤ w.heap.size)
    (hK : ∀ v' w', QRow base w' v' (l ++ [k]) → w.grownBy w' v.ownBlock → (v'.ownBlock = v.ownBlock ∨ v'.ownBlock = some w.heap.size) → K (a.put o.dst v') w') : o.wp Try.prog a w K Q := by
  obtain ⟨v', w', hr, h2, h3, h4⟩ := run_appendQ base T o.type hT w v l h g0 c k hb hk hlen hbase
  unfold Oper.wp execOp
  simp only [ho, resolve, invoke, builtin, Sem.run_bind, Sem.run_pure, Result.andThen_ok, List.map_toArray, List.map_cons, List.map_nil, hs, hx, hr]
  exact hK v' w' h2 h3 h4

theorem wpList_appendQ {ops : Array Oper} {rest : List Oper} {o : Oper} {a : Act} {w : World} {Q : Exit → Act → World → Prop} (hgd : o.guard = none) (s x : Operand) (T : TypeId) (hT : Try.prog.underlying T = some (.slice 3))
    (ho : o.op = .call { callee := .builtin .append, args := #[s, x], argTypes := #[T, T] }) (base : Nat) (v : Value) (l : List Int) (k : Int) (hs : a.eval s = v) (h : QRow base w v l)
    (g0 c : Nat) (hx : a.eval x = .slice (some ⟨g0, 0, none⟩) 1 c) (hb : Blk w g0 [.int .i64 k] 3) (hk : InI k) (hlen : (l.length + 1) * 8 ≤ 140737488351232) (hbase : base ≤ w.heap.size)
    (hK : ∀ v' w', QRow base w' v' (l ++ [k]) → w.grownBy w' v.ownBlock → (v'.ownBlock = v.ownBlock ∨ v'.ownBlock = some w.heap.size) → wpList Try.prog ops Q rest (a.put o.dst v') w') : wpList Try.prog ops Q (o :: rest) a w :=
  wpList_plain hgd fun _ hK' => wp_appendQ s x T hT ho base v l k hs h g0 c hx hb hk hlen hbase fun v' w' h2 h3 h4 => hK' _ _ (hK v' w' h2 h3 h4)

/-- The head is taken. -/
theorem QRow.tail {base : Nat} {w : World} {g off n cap : Nat} {x : Int} {l : List Int} (h : QRow base w (.slice (some ⟨g, off, none⟩) n cap) (x :: l)) : QRow base w (.slice (some ⟨g, off + 1, none⟩) (n - 1) (cap - 1)) l := by
  refine ⟨fun i => by have := h.1 (i + 1); simpa [ix] using this, ?_⟩
  rcases h.2 with ⟨e, _⟩ | ⟨g', off', cap', cur, e, hb, hg, h1, h2, h3, h4⟩
  · cases e
  · simp only [Value.slice.injEq, Option.some.injEq, Addr.mk.injEq, and_true] at e
    obtain ⟨⟨rfl, rfl⟩, rfl, rfl⟩ := e
    refine .inr ⟨g, off + 1, cap - 1, cur, by simp, hb, hg, by simp only [List.length_cons] at h1; omega, by omega, by simp only [List.length_cons] at h1; omega, fun i hi => ?_⟩
    have := h4 (i + 1) (by simp; omega)
    rw [show off + 1 + i = off + (i + 1) by omega, this]
    simp [ix]

end Go.Proofs.Ytkjpnpkmnpofgaa
