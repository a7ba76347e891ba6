/- reduct.positive: its contract. -/
import Derived.Test.YtdoecchigfdilaaStabPQ
import Derived.Deep.RegionHeld3
import Derived.Deep.DrawnRows
namespace Go.Proofs.Ytdoecchigfdilaa
open Go.RowKit
attribute [local go_sem ↓] Go.wp_at_zero Go.wp_at_succ

theorem step_appendQ {ops : Array Oper} {o : Oper} {a : Act} {w : World} {K : Act → World → Prop} {Q : Exit → Act → World → Prop} {E : Prop} (hgd : o.guard = none) (s x : Operand) (T : TypeId) (hT : Try.prog.underlying T = some (.slice 3))
    (ho : o.op = .call { callee := .builtin .append, args := #[s, x], argTypes := #[T, T] }) (base : Nat) (v : Value) (l : List Int) (k : Int) (hs : a.eval s = v) (h : QRow base w v l)
    (g0 c : Nat) (hx : a.eval x = .slice (some ⟨g0, 0, none⟩) 1 c) (hb : Blk w g0 [.int .i64 k] 3) (hk : InI k) (hlen : (l.length + 1) * 8 ≤ 140737488351232) (hbase : base ≤ w.heap.size)
    (hK : ∀ v' w', QRow base w' v' (l ++ [k]) → w.grownBy w' v.ownBlock → (v'.ownBlock = v.ownBlock ∨ v'.ownBlock = some w.heap.size) → K (a.put o.dst v') w') :
    if Region.wanted o (yielded ops a.tmps) = true then Oper.wp Try.prog o a w K Q else E := by
  have hw : Region.wanted o (yielded ops a.tmps) = true := by simp [Region.wanted, hgd]
  rw [if_pos hw]
  exact wp_appendQ s x T hT ho base v l k hs h g0 c hx hb hk hlen hbase hK

def zR : List Value := [.bool false, .slice none 0 0, .bool false, .int .i64 0, .slice none 0 0, .slice none 0 0]

/-- positive under way: the boxes of the rule, the result, the rule under way. -/
structure PSt (r : GR) (m : List Int) (w : World) (k : Nat) (vh vb0 vw0 va vb : Value) (wx : World) : Prop where
  box : Blk wx w.heap.size [.bool r.choice, vh, .bool r.sum, .int .i64 r.bound, vb0, vw0] 41
  res : Blk wx (w.heap.size + 1) zR 41
  out : Blk wx (w.heap.size + 1 + 1) [.bool false, .slice none 0 0, .bool r.sum, .int .i64 (redAt m r k).bound, va, vb] 41
  body : QRow (w.heap.size + 1 + 1 + 1) wx va (fstL (posP r k))
  wts : QRow (w.heap.size + 1 + 1 + 1) wx vb (if r.sum then sndL (posP r k) else [])
  apart : ∀ i, va.ownBlock = some i → vb.ownBlock ≠ some i
  below : Below w.heap.size w wx
  size : w.heap.size + 1 + 1 + 1 ≤ wx.heap.size

def PRel (r : GR) (m : List Int) (w : World) (vh vb0 vw0 : Value) (i : Value) (wx : World) : Prop :=
  ∃ k va vb, k ≤ r.body.length ∧ i = .int .i64 (k : Nat) ∧ PSt r m w k vh vb0 vw0 va vb wx ∧ Hid (r.sum = false → negF m r k = false)

/-- What positive returns. -/
def PosPost (r : GR) (m : List Int) (w : World) (e : Ending) (w' : World) : Prop :=
  match redB m r with
  | none => e = .returned (.tuple #[.agg #[.bool false, .slice none 0 0, .bool false, .int .i64 0, .slice none 0 0, .slice none 0 0], .bool false]) ∧ Below w.heap.size w w'
  | some x => ∃ va vb, e = .returned (.tuple #[.agg #[.bool false, .slice none 0 0, .bool x.sum, .int .i64 x.bound, va, vb], .bool true]) ∧ QRow w.heap.size w' va x.body ∧ QRow w.heap.size w' vb x.w ∧ Below w.heap.size w w'

theorem negW_le {m : List Int} {r : GR} (hw : ∀ k, k < r.body.length → 0 ≤ ix r.w k ∧ ix r.w k ≤ 1048576) : ∀ k, k ≤ r.body.length → 0 ≤ negW m r k ∧ negW m r k ≤ 1048576 * k
  | 0, _ => by simp [negW]
  | k + 1, hk => by
    have ih := negW_le (m := m) hw k (by omega)
    have := hw k (by omega)
    unfold negW; split <;> omega

theorem PSt.on {r : GR} {m : List Int} {w wx wy : World} {k : Nat} {vh vb0 vw0 va vb : Value} (h : PSt r m w k vh vb0 vw0 va vb wx) (hb : Below wx.heap.size wx wy) : PSt r m w k vh vb0 vw0 va vb wy :=
  ⟨h.box.below hb, h.res.below hb, h.out.below hb, h.body.below hb, h.wts.below hb, h.apart, bon h.below hb, Nat.le_trans h.size hb.size⟩

theorem QRow.own_ne {base : Nat} {w : World} {v : Value} {l : List Int} (h : QRow base w v l) {i : Nat} (hi : i < base ∨ w.heap.size ≤ i) : v.ownBlock ≠ some i := fun e => by
  rcases h.2 with ⟨rfl, _⟩ | ⟨g, off, cap, cur, rfl, hbg, hg, _⟩
  · cases e
  · have := (Array.getElem?_eq_some_iff.1 hg).1
    simp only [Value.ownBlock, Option.some.injEq] at e; omega

/-- A literal has been appended to the body (not yet stored). -/
theorem PSt.pushed {r : GR} {m : List Int} {w wx w4 : World} {k : Nat} {vh vb0 vw0 va vb : Value} {o : Obj} (h : PSt r m w k vh vb0 vw0 va vb wx)
    (hg : (wx.alloc o).grownBy w4 va.ownBlock) : Blk w4 w.heap.size [.bool r.choice, vh, .bool r.sum, .int .i64 r.bound, vb0, vw0] 41 ∧ Blk w4 (w.heap.size + 1) zR 41 ∧
      Blk w4 (w.heap.size + 1 + 1) [.bool false, .slice none 0 0, .bool r.sum, .int .i64 (redAt m r k).bound, va, vb] 41 ∧ QRow (w.heap.size + 1 + 1 + 1) w4 vb (if r.sum then sndL (posP r k) else []) ∧ Below w.heap.size w w4 ∧ w.heap.size + 1 + 1 + 1 ≤ w4.heap.size := by
  have hs := h.size
  have hgs := hg.size
  simp only [World.size_alloc] at hgs
  have same : ∀ b, b < w.heap.size + 1 + 1 + 1 → w4.heap[b]? = wx.heap[b]? := fun b hb =>
    (hg.block b (by simp; omega) (fun e => h.body.own_ne (.inl hb) e.symm)).trans (Below.heap_alloc _ _ _ (by omega))
  refine ⟨h.box.same (same _ (by omega)), h.res.same (same _ (by omega)), h.out.same (same _ (by omega)), h.wts.kept fun i hi hi2 hu => ?_, ⟨hg.os.trans h.below.os, hg.tape.trans h.below.tape, hg.output.trans h.below.output, by omega, fun i hi => (same i (by omega)).trans (h.below.block i hi)⟩, by omega⟩
  exact (hg.block i (by simp; omega) (fun e => h.apart i e.symm hu)).trans (Below.heap_alloc _ _ _ hi2)

theorem PSt.pushed2 {r : GR} {w wx w4 : World} {vh vb0 vw0 va vb : Value} {o : Obj} (h : Blk wx w.heap.size [.bool r.choice, vh, .bool r.sum, .int .i64 r.bound, vb0, vw0] 41 ∧ Blk wx (w.heap.size + 1) zR 41)
    {c : List Value} (ho : Blk wx (w.heap.size + 1 + 1) c 41) {la lb : List Int} (ha : QRow (w.heap.size + 1 + 1 + 1) wx va la) (hb : QRow (w.heap.size + 1 + 1 + 1) wx vb lb) (hap : ∀ i, va.ownBlock = some i → vb.ownBlock ≠ some i) (hbl : Below w.heap.size w wx) (hs : w.heap.size + 1 + 1 + 1 ≤ wx.heap.size)
    (hg : (wx.alloc o).grownBy w4 vb.ownBlock) : Blk w4 w.heap.size [.bool r.choice, vh, .bool r.sum, .int .i64 r.bound, vb0, vw0] 41 ∧ Blk w4 (w.heap.size + 1) zR 41 ∧
      Blk w4 (w.heap.size + 1 + 1) c 41 ∧ QRow (w.heap.size + 1 + 1 + 1) w4 va la ∧ Below w.heap.size w w4 ∧ w.heap.size + 1 + 1 + 1 ≤ w4.heap.size := by
  have hgs := hg.size
  simp only [World.size_alloc] at hgs
  have same : ∀ b, b < w.heap.size + 1 + 1 + 1 → w4.heap[b]? = wx.heap[b]? := fun b hb' =>
    (hg.block b (by simp; omega) (fun e => hb.own_ne (.inl hb') e.symm)).trans (Below.heap_alloc _ _ _ (by omega))
  refine ⟨h.1.same (same _ (by omega)), h.2.same (same _ (by omega)), ho.same (same _ (by omega)), ha.kept fun i hi hi2 hu => ?_, ⟨hg.os.trans hbl.os, hg.tape.trans hbl.tape, hg.output.trans hbl.output, by omega, fun i hi => (same i (by omega)).trans (hbl.block i hi)⟩, by omega⟩
  exact (hg.block i (by simp; omega) (fun e => hap i hu e.symm)).trans (Below.heap_alloc _ _ _ hi2)

theorem PSt.apart4 {r : GR} {m : List Int} {w wx : World} {k : Nat} {vh vb0 vw0 va vb v4 : Value} {o : Obj} (h : PSt r m w k vh vb0 vw0 va vb wx) (hl : v4.ownBlock = va.ownBlock ∨ v4.ownBlock = some (wx.alloc o).heap.size) : ∀ i, v4.ownBlock = some i → vb.ownBlock ≠ some i := fun i e => by
  rcases hl with hl | hl
  · exact h.apart i (hl ▸ e)
  · rw [hl] at e
    have := Option.some.inj e
    simp only [World.size_alloc] at this
    exact h.wts.own_ne (.inr (by omega))

theorem negF_next {m : List Int} {r : GR} {k : Nat} (h : r.sum = false → negF m r k = false) (hk : ¬ (ix r.body k < 0 ∧ -(ix r.body k) ∈ m)) : r.sum = false → negF m r (k + 1) = false := fun hs => by
  unfold negF
  refine anyR_false fun j hj => ?_
  by_cases e : j = k
  · subst e
    rw [Bool.and_eq_false_iff, decide_eq_false_iff_not, decide_eq_false_iff_not]
    by_cases h1 : ix r.body j < 0
    · exact .inr fun h2 => hk ⟨h1, h2⟩
    · exact .inl h1
  · have := List.any_eq_false.1 (h hs) j (List.mem_range.2 (by omega))
    simpa using this

theorem red_end0 {m : List Int} {r : GR} (hs : r.sum = false) (h : r.sum = false → negF m r r.body.length = false) : redB m r = some (redAt m r r.body.length) := by
  unfold redB
  rw [if_neg (fun hh => by rw [h hs] at hh; exact Bool.noConfusion hh.2), if_neg (fun hh => by rw [hs] at hh; exact Bool.noConfusion hh.1)]

theorem red_end1 {m : List Int} {r : GR} (hs : r.sum = true) : redB m r = if r.bound - negW m r r.body.length ≤ 0 then some emptyR else some (redAt m r r.body.length) := by
  unfold redB
  rw [if_neg (fun hh => by rw [hs] at hh; exact Bool.noConfusion hh.1)]
  by_cases h : r.bound - negW m r r.body.length ≤ 0
  · rw [if_pos h, if_pos ⟨hs, h⟩]
  · rw [if_neg h, if_neg (fun hh => h hh.2)]

theorem pos_skip {m : List Int} {r : GR} {k : Nat} (h : ¬ 0 < ix r.body k) : posP r (k + 1) = posP r k := by
  rw [posP, if_neg h]
theorem pos_take {m : List Int} {r : GR} {k : Nat} (h : 0 < ix r.body k) : posP r (k + 1) = posP r k ++ [(ix r.body k, ix r.w k)] := by
  rw [posP, if_pos h]

theorem QRow.setFar {base : Nat} {w : World} {v : Value} {l : List Int} (h : QRow base w v l) {b : Nat} (o : Nat) (u : Value) (hb : b < base) : QRow base (w.setCell ⟨b, o, none⟩ u) v l :=
  h.kept fun i hi _ _ => Below.heap_setCell _ _ _ _ (by show i ≠ b; omega)

end Go.Proofs.Ytdoecchigfdilaa
