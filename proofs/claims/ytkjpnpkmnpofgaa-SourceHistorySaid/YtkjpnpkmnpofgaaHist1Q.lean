/- SourceHistory: the copy of a rule; what never turns a Sources object. -/
import Derived.Test.YtkjpnpkmnpofgaaMD
import Derived.Test.YtkjpnpkmnpofgaaMC
namespace Go.Proofs.Ytkjpnpkmnpofgaa
open Go.RowKit
attribute [local go_sem] memUpon

/-- Whatever leaves the blocks from the object's making on alone keeps it. -/
theorem Src.keepFrom {m : Nat} {s : SP} {p : GP} {F K : Int → Int} {clock : Int} {a : List Int} {w w' : World} (h : Src m s p F K clock a w) (hs : w.heap.size ≤ w'.heap.size) (hb : ∀ i, s.H ≤ i → i < m → w'.heap[i]? = w.heap[i]?) : Src m s p F K clock a w' := by
  obtain ⟨va, ho, Ha, Ta, h1, h2, h3⟩ := h.obj
  have ht := h.top
  have hl := h.lo
  have hh := h.hi
  exact ⟨⟨va, ho.same (hb _ (by omega) (by omega)), Ha, Ta, h1, by omega, fun w2 hw2 hz => h3 w2 (fun i i1 i2 i3 => (hw2 i i1 i2 i3).trans (hb i (by omega) (by omega))) (by omega)⟩,
    h.frm.same (hb _ (by omega) (by omega)), h.rank.same (hb _ (by omega) (by omega)), h.ne, h.hi, h.lo, by omega,
    fun w2 hw2 hz => h.fix w2 (fun i i1 i2 i3 => (hw2 i i1 i2 i3).trans (hb i (by omega) (by omega))) (by omega), h.valid, h.rowsH, h.rowsU, h.fitF, h.fitK, h.fitC⟩

/-- 'append([]int{}, x...)': a row of the call's own; nothing that was there turns. -/
theorem run_appendE (ty : TypeId) (w : World) (g0 : Nat) (hg : w.heap[g0]? = some (.cells #[] 3 (0, 0))) (x : Value) (m : List Int) (hx : Ints w x m) :
    ∃ a c w', (Builtin.append_ #[23, 23] ty #[.slice (some ⟨g0, 0, none⟩) 0 0, x]).run Try.prog w = .ok (.slice a m.length c) w' ∧ QRow g0 w' (.slice a m.length c) m ∧ Below w.heap.size w w' := by
  have hlt : g0 < w.heap.size := (Array.getElem?_eq_some_iff.1 hg).1
  have hl : m.length * 8 ≤ 140737488351232 := by
    obtain ⟨⟨a, c, e, h1, h2, h3, -⟩, -⟩ := hx
    omega
  have hi := infoI
  obtain ⟨i, hi, he⟩ := Option.map_eq_some_iff.1 hi
  simp only [Prod.mk.injEq] at he
  obtain ⟨hz, hs, hby⟩ := he
  have hsrc : _root_.Go.Src Try.prog i.size 23 x m.length (m.map (Value.int .i64)) w := by rw [hs]; exact hx.src
  have hT := Try.underlying23
  have zc : ∀ n, (Builtin.zeroCells (Value.int .i64 0).cells n).size = n := fun n => by simp [Builtin.zeroCells, Value.cells]
  cases m with
  | nil =>
    refine ⟨some ⟨g0, 0, none⟩, 0, w, ?_, QRow.empty hg (Nat.le_refl _), Below.refl _ _⟩
    have h0 : (Builtin.firstCells i.size 0 x).run Try.prog w = .ok #[] w := hsrc.cells
    simp [Builtin.append_, run_underlying hT, sizeOf, typeInfo, hi, hsrc.len, h0, storeCells]
  | cons y m =>
    have hr := run_append_grow_src (P := Try.prog) w 23 23 ty 3 i _ hT hi hz (some ⟨g0, 0, none⟩) 0 0 [] (run_firstCells_some (P := Try.prog) w.drew i.size 0 ⟨g0, 0, none⟩ 0 0 [] (by simp) (fun j u hu => by simp at hu)) x (y :: m).length _ hsrc (by simp) (by omega) (growslice_fits (by simp) (by rw [hby]; omega))
    have hge := grownCap_ge w (0 + (y :: m).length) 0 3
    simp only [Nat.zero_add, List.nil_append] at hr hge
    refine ⟨_, _, _, hr, ⟨hx.2, .inr ⟨w.heap.size, 0, _, _, rfl, by omega, heap_alloc_new w.drew _, hge, grownCap_le_maxLen w (y :: m).length 0 3 (by unfold maxLen; omega), ?_, fun j hj => ?_⟩⟩, ((Below.refl _ _).drew).alloc (Nat.le_refl _) _⟩
    · simp only [Array.size_append, List.size_toArray, List.length_map, zc]; omega
    · rw [Nat.zero_add, Array.getElem?_append_left (by simpa using hj), List.getElem?_toArray]
      exact map_ix _ j hj

theorem memUpon_append {o : Oper} {a : Act} {w w' : World} {Post : Value → World → Prop} (s x : Operand) {v y v' : Value}
    (ho : o.op = .call { callee := .builtin .append, args := #[s, x], argTypes := #[23, 23] }) (hs : a.eval s = v) (hx : a.eval x = y) (hr : (Builtin.append_ #[23, 23] o.type #[v, y]).run Try.prog w = .ok v' w') (hP : Post v' w') :
    memUpon Try.prog Post ((execOp a.eval o).run Try.prog w) := by
  unfold execOp
  simp only [ho, resolve, invoke, builtin, Sem.run_bind, Sem.run_pure, Result.andThen_ok, List.map_toArray, List.map_cons, List.map_nil, hs, hx, hr]
  exact hP

theorem few_small {p : GP} (h : fewB p = true) : ∀ r ∈ p.rules, r.head.length * 8 ≤ 140737488351232 ∧ r.body.length * 8 ≤ 140737488351232 ∧ r.w.length * 8 ≤ 140737488351232 := fun r hr => by
  unfold fewB at h
  simp only [Bool.and_eq_true] at h
  obtain ⟨i, hi, e⟩ := List.mem_iff_getElem.1 hr
  have h1 := allR_get h.2 i hi
  have e2 : ixR p.rules i = r := by simp [ixR, List.getD_eq_getElem?_getD, List.getElem?_eq_getElem hi, e]
  rw [e2] at h1
  simp only [fewAt, Bool.and_eq_true, decide_eq_true_eq] at h1
  omega

/-! ### A program's rules, copied -/
/-- The rules in v, of the call's own. -/
structure Mine (B : Nat) (v : Value) (L : List RQ) (w : World) : Prop where
  row : w.ownsRow B 44 6 v L.length (L.flatMap cells6)
  each : ∀ q ∈ L, QRow B w q.2.1 q.1.head ∧ QRow B w q.2.2.1 q.1.body ∧ QRow B w q.2.2.2 q.1.w ∧ InI q.1.bound

theorem Mine.nil (B : Nat) (w : World) : Mine B (.slice none 0 0) [] w := ⟨⟨by simp, .inl ⟨rfl, rfl⟩⟩, fun q hq => by simp at hq⟩

section
variable {B n : Nat} {xs : List Value} {v : Value} {w w' : World} {L : List RQ}

/-- The row of rules may turn: a row of ints does not. -/
theorem QRow.rowKept {u : Value} {l : List Int} (h : QRow B w u l) (hr : w.ownsRow B 44 6 v n xs) (hg : w.grownBy w' v.ownBlock) : QRow B w' u l := by
  refine h.kept fun i hi hi2 hu => hg.block i hi2 (fun e => ?_)
  rcases hr.2 with ⟨rfl, _⟩ | ⟨g, cap, cur, rfl, hb, hgg, _⟩
  · cases e
  · simp only [Value.ownBlock, Option.some.injEq] at e
    subst e
    rcases h.2 with ⟨rfl, _⟩ | ⟨g', off, cap', cur', rfl, _, hgg', _⟩
    · cases hu
    · simp only [Value.ownBlock, Option.some.injEq] at hu
      subst hu
      rw [hgg'] at hgg
      have := Option.some.inj hgg
      injection this with _ h2 _
      revert h2; decide

theorem Mine.below (h : Mine B v L w) (hb : Below w.heap.size w w') : Mine B v L w' :=
  ⟨rowBelow h.row hb, fun q hq => let ⟨h1, h2, h3, h4⟩ := h.each q hq; ⟨h1.below hb, h2.below hb, h3.below hb, h4⟩⟩

theorem Mine.push {g cap : Nat} {q : RQ} (h : Mine B v L w) (hq : QRow B w q.2.1 q.1.head ∧ QRow B w q.2.2.1 q.1.body ∧ QRow B w q.2.2.2 q.1.w ∧ InI q.1.bound)
    (hown : w'.ownsRow B 44 6 (.slice (some ⟨g, 0, none⟩) (L.length + 1) cap) (L.length + 1) (L.flatMap cells6 ++ cells6 q)) (hg : w.grownBy w' v.ownBlock) : Mine B (.slice (some ⟨g, 0, none⟩) (L.length + 1) cap) (L ++ [q]) w' := by
  refine ⟨by simpa using hown, fun q' hq' => ?_⟩
  simp only [List.mem_append, List.mem_singleton] at hq'
  rcases hq' with hq' | rfl
  · obtain ⟨h1, h2, h3, h4⟩ := h.each q' hq'
    exact ⟨h1.rowKept h.row hg, h2.rowKept h.row hg, h3.rowKept h.row hg, h4⟩
  · obtain ⟨h1, h2, h3, h4⟩ := hq
    exact ⟨h1.rowKept h.row hg, h2.rowKept h.row hg, h3.rowKept h.row hg, h4⟩

/-- A store elsewhere. -/
theorem Mine.setCell (h : Mine B v L w) {b : Nat} (o : Nat) (u : Value) (hb : b < B) : Mine B v L (w.setCell ⟨b, o, none⟩ u) := by
  have hk : ∀ i, B ≤ i → (w.setCell ⟨b, o, none⟩ u).heap[i]? = w.heap[i]? := fun i hi => Below.heap_setCell _ _ _ _ (show i ≠ b by omega)
  refine ⟨⟨h.row.1, ?_⟩, fun q hq => let ⟨h1, h2, h3, h4⟩ := h.each q hq; ⟨h1.kept fun i hi _ _ => hk i hi, h2.kept fun i hi _ _ => hk i hi, h3.kept fun i hi _ _ => hk i hi, h4⟩⟩
  rcases h.row.2 with hn | ⟨g, cap, cur, e, hbg, hgg, rest⟩
  · exact .inl hn
  · exact .inr ⟨g, cap, cur, e, hbg, (hk g hbg).trans hgg, rest⟩

theorem Mine.rules (h : Mine B v L w) (l : List GR) (hl : L.map (·.1) = l) (hfit : L.length * 88 ≤ 140737488351232) (hlen : ∀ q ∈ L, q.1.head.length * 8 ≤ 140737488351232 ∧ q.1.body.length * 8 ≤ 140737488351232 ∧ q.1.w.length * 8 ≤ 140737488351232) :
    RulesAt w v l (fun i => (L.getD i default).2.1) (fun i => (L.getD i default).2.2.1) (fun i => (L.getD i default).2.2.2) := by
  have hlen' : l.length = L.length := by rw [← hl]; simp
  have hq : ∀ i, i < l.length → L.getD i default ∈ L ∧ (L.getD i default).1 = ixR l i := fun i hi => by
    have hi' : i < L.length := by omega
    have e : L.getD i default = L[i] := by simp [List.getD_eq_getElem?_getD, List.getElem?_eq_getElem hi']
    rw [e]
    refine ⟨List.getElem_mem hi', ?_⟩
    subst hl
    simp [ixR, List.getD_eq_getElem?_getD, List.getElem?_eq_getElem hi']
  refine ⟨?_, fun i hi => ?_⟩
  · rw [hlen']
    rcases h.row.2 with ⟨rfl, h0⟩ | ⟨g, cap, cur, rfl, hb, hg, hn, hm, hs, hx⟩
    · exact ⟨none, 0, by rw [h0], by omega, by unfold maxLen; omega, by omega, fun hp => by omega⟩
    · refine ⟨_, cap, rfl, hn, hm, hfit, fun _ => ⟨g, 0, rfl, (Array.getElem?_eq_some_iff.1 hg).1, fun i hi j hj => ?_⟩⟩
      have h6 := flat6 L i j hi hj
      rw [← hx, List.getElem?_take_of_lt (by omega)] at h6
      rw [cell_of_row w g (0 + i * 6 + j) cur _ (0, 0) hg, Nat.zero_add]
      have e2 := (hq i (by omega)).2
      dsimp only
      rw [← e2]
      have : cur[i * 6 + j]? = cur.toList[i * 6 + j]? := by simp
      rw [this, h6]
      rcases (show j = 0 ∨ j = 1 ∨ j = 2 ∨ j = 3 ∨ j = 4 ∨ j = 5 by omega) with rfl | rfl | rfl | rfl | rfl | rfl <;> rfl
  · obtain ⟨hm, e⟩ := hq i hi
    obtain ⟨h1, h2, h3, h4⟩ := h.each _ hm
    obtain ⟨g1, g2, g3⟩ := hlen _ hm
    rw [← e]
    exact ⟨h1.ints g1, h2.ints g2, h3.ints g3, h4⟩
end

/-! ### Writing into the copy -/
/-- The copy's rules may be written into: the row of rules in block b; the bodies. Blocks B .. H - 1. -/
structure MW (B H : Nat) (ar : Option Addr) (n : Nat) (L : List RQ) (w : World) : Prop where
  row : 0 < n → ∃ b off cur, ar = some ⟨b, off, none⟩ ∧ B ≤ b ∧ b < H ∧ Blk w b cur 44 ∧ ∀ i, i < n → cur[off + i * 6 + 4]? = some (L.getD i default).2.2.1 ∧ ∃ bd : Int, cur[off + i * 6 + 3]? = some (.int .i64 bd)
  body : ∀ i, i < n → ∃ a c, (L.getD i default).2.2.1 = .slice a (L.getD i default).1.body.length c ∧ (0 < (L.getD i default).1.body.length → ∃ g off cur, a = some ⟨g, off, none⟩ ∧ B ≤ g ∧ g < H ∧ Blk w g cur 3 ∧ off + (L.getD i default).1.body.length ≤ cur.length)

theorem Blk.tyNe {w : World} {b g : Nat} {c d : List Value} (h : Blk w b c 44) (k : Blk w g d 3) : b ≠ g := by
  rintro rfl
  unfold Blk at h k
  rw [h] at k
  have := Option.some.inj k
  injection this with _ h2 _
  revert h2; decide

section
variable {B H n : Nat} {ar : Option Addr} {L : List RQ} {w w' : World}

theorem MW.below (h : MW B H ar n L w) (hb : Below w.heap.size w w') : MW B H ar n L w' :=
  ⟨fun h0 => let ⟨b, off, cur, e, h1, h2, h3, h4⟩ := h.row h0; ⟨b, off, cur, e, h1, h2, h3.below hb, h4⟩,
   fun i hi => let ⟨a, c, e, k⟩ := h.body i hi; ⟨a, c, e, fun h0 => let ⟨g, off, cur, e, h1, h2, h3, h4⟩ := k h0; ⟨g, off, cur, e, h1, h2, h3.below hb, h4⟩⟩⟩

theorem Mine.mw {v : Value} {nr cr : Nat} (h : Mine B v L w) (hv : v = .slice ar nr cr) : MW B w.heap.size ar L.length L w := by
  subst hv
  refine ⟨fun h0 => ?_, fun i hi => ?_⟩
  · rcases h.row.2 with ⟨e, e2⟩ | ⟨g, cap, cur, e, hb, hg, hn, hm, hs, hx⟩
    · omega
    · simp only [Value.slice.injEq] at e
      refine ⟨g, 0, cur.toList, e.1, hb, (Array.getElem?_eq_some_iff.1 hg).1, by unfold Blk; simpa using hg, fun i hi => ?_⟩
      have h6 : ∀ j, j < 6 → cur.toList[0 + i * 6 + j]? = (cells6 (L.getD i default))[j]? := fun j hj => by
        have h6 := flat6 L i j hi hj
        rw [← hx, List.getElem?_take_of_lt (by omega)] at h6
        rw [Nat.zero_add, h6]
      exact ⟨(h6 4 (by omega)).trans rfl, (L.getD i default).1.bound, (h6 3 (by omega)).trans rfl⟩
  · have e : L.getD i default = L[i] := by simp [List.getD_eq_getElem?_getD, List.getElem?_eq_getElem hi]
    obtain ⟨-, hq, -, -⟩ := h.each _ (show L.getD i default ∈ L by rw [e]; exact List.getElem_mem hi)
    rcases hq.2 with ⟨e, e2⟩ | ⟨g, off, cap, cur, e, hb, hg, hn, hm, hs, hx⟩
    · exact ⟨none, 0, by rw [e, e2]; rfl, fun h0 => by rw [e2] at h0; simp at h0⟩
    · exact ⟨_, _, e, fun _ => ⟨g, off, cur.toList, rfl, hb, (Array.getElem?_eq_some_iff.1 hg).1, by unfold Blk; simpa using hg, by rw [Array.length_toList]; omega⟩⟩

theorem MW.setBody (h : MW B H ar n L w) {g : Nat} {d : List Value} (hg : Blk w g d 3) (o : Nat) (u : Value) : MW B H ar n L (w.setCell ⟨g, o, none⟩ u) := by
  refine ⟨fun h0 => ?_, fun i hi => ?_⟩
  · obtain ⟨b, off, cur, e, h1, h2, h3, h4⟩ := h.row h0
    exact ⟨b, off, cur, e, h1, h2, h3.setOther o u (h3.tyNe hg), h4⟩
  · obtain ⟨a, c, e, k⟩ := h.body i hi
    refine ⟨a, c, e, fun h0 => ?_⟩
    obtain ⟨g', off, cur, e, h1, h2, h3, h4⟩ := k h0
    by_cases hgg : g' = g
    · subst hgg
      exact ⟨g', off, cur.set o u, e, h1, h2, h3.set o u, by simpa using h4⟩
    · exact ⟨g', off, cur, e, h1, h2, h3.setOther o u hgg, h4⟩

theorem MW.setBound (h : MW B H ar n L w) {b off i : Nat} (har : ar = some ⟨b, off, none⟩) (hi : i < n) (x : Int) : MW B H ar n L (w.setCell ⟨b, off + i * 6 + 3, none⟩ (.int .i64 x)) := by
  obtain ⟨b', off', cur, e, h1, h2, h3, h4⟩ := h.row (by omega)
  rw [har] at e
  simp only [Option.some.injEq, Addr.mk.injEq, and_true] at e
  obtain ⟨rfl, rfl⟩ := e
  refine ⟨fun _ => ⟨b, off, cur.set (off + i * 6 + 3) (.int .i64 x), har, h1, h2, h3.set _ _, fun j hj => ?_⟩, fun j hj => ?_⟩
  · obtain ⟨k1, bd, k2⟩ := h4 j hj
    refine ⟨by rw [List.getElem?_set_ne (by omega)]; exact k1, ?_⟩
    by_cases hij : i = j
    · subst hij
      exact ⟨x, by rw [List.getElem?_set_self (List.getElem?_eq_some_iff.1 k2).1]⟩
    · exact ⟨bd, by rw [List.getElem?_set_ne (by omega)]; exact k2⟩
  · obtain ⟨a, c, e, k⟩ := h.body j hj
    refine ⟨a, c, e, fun h0 => ?_⟩
    obtain ⟨g', off', cur', e, k1, k2, k3, k4⟩ := k h0
    exact ⟨g', off', cur', e, k1, k2, k3.setOther _ _ (fun e => h3.tyNe k3 e.symm), k4⟩

theorem MW.at {b off k nb c : Nat} {a : Option Addr} (h : MW B H (some ⟨b, off, none⟩) n L w) (hk : k < n) (e : (L.getD k default).2.2.1 = .slice a nb c) :
    (∃ cur, Blk w b cur 44 ∧ B ≤ b ∧ b < H) ∧ w.cell? ⟨b, off + k * 6 + 4, none⟩ = some (.slice a nb c) ∧ (∃ bd : Int, w.cell? ⟨b, off + k * 6 + 3, none⟩ = some (.int .i64 bd)) ∧ w.frozen? ⟨b, off + k * 6 + 3, none⟩ = false ∧
      (0 < nb → ∃ g off2 cur2, a = some ⟨g, off2, none⟩ ∧ B ≤ g ∧ g < H ∧ Blk w g cur2 3 ∧ off2 + nb ≤ cur2.length) := by
  obtain ⟨b', off', cur, e1, h1, h2, h3, h4⟩ := h.row (by omega)
  simp only [Option.some.injEq, Addr.mk.injEq, and_true] at e1
  obtain ⟨rfl, rfl⟩ := e1
  obtain ⟨k1, bd, k2⟩ := h4 k hk
  rw [e] at k1
  obtain ⟨a', c', e', k5⟩ := h.body k hk
  rw [e] at e'
  simp only [Value.slice.injEq] at e'
  obtain ⟨rfl, rfl, rfl⟩ := e'
  exact ⟨⟨cur, h3, h1, h2⟩, (h3.cell _).trans k1, ⟨bd, (h3.cell _).trans k2⟩, h3.free _, k5⟩
end

end Go.Proofs.Ytkjpnpkmnpofgaa
