/- My texts Rdc1, Rdc2, Mine, Rdc3, merged. -/
import Derived.Test.YtfajkmmmmmfhiaaGreatDoorM07
import Derived.Test.YtfajkmmmmmfhiaaGreatDoorM24
import Derived.Test.YtfajkmmmmmfhiaaGreatDoorM06
import Derived.Test.YtfajkmmmmmfhiaaGreatDoorM05
import Derived.Test.YtfajkmmmmmfhiaaGreatDoorM04
import Derived.Test.YtfajkmmmmmfhiaaGreatDoorM22
import Derived.Test.YtfajkmmmmmfhiaaGreatDoorM03
import Derived.Test.YtfajkmmmmmfhiaaGreatDoorM00
import Derived.Test.YtfajkmmmmmfhiaaGreatDoorProg
import Derived.WalkKit
import Derived.Lib.Hide
import Derived.Deep.QuietTactic
import Derived.BigQuiet
import Derived.WalkSpells
import Derived.Lib.SliceRun
import Derived.MapKept
import Derived.Maps.OwnSet
import Derived.Maps.OwnOps
import Derived.Test.YtfajkmmmmmfhiaaGreatDoorM02
import Derived.Test.YtfajkmmmmmfhiaaGreatDoorM20
import Derived.Test.YtfajkmmmmmfhiaaGreatDoorM01
import Derived.Deep.AppendLies
import Derived.Lib.Bytealg
import Derived.Deep.DeepCutAuto
import Derived.Laws.EntriesVeiled
import Derived.Deep.RegionWith
import Derived.Deep.OwnRows
import Derived.RangeFuncNested
import Derived.RangeFuncBound
import Derived.RangeFuncCalls
import Derived.RangeFuncLeaves
import Derived.OwnWalkIn
import Derived.TacticsInMore
import Derived.LoopNIn
import Derived.LoopIn
import Derived.Stop.RegionWithIn
import Derived.Shelf.Abstract
import Derived.Test.YtfajkmmmmmfhiaaGreatDoorM23
import Derived.Deep.LoopGhost
import Derived.Deep.DrawnRows
import Derived.Deep.RegionHeld3
import Derived.Laws.ResultCell
import Derived.Laws.Rows
import Derived.Deep.RegionLaw
import Derived.Test.YtfajkmmmmmfhiaaGreatDoorM09
import Derived.Deep.AppendSrc

namespace Go.Proofs.YtfajkmmmmmfhiaaGreatDoor
open Go.RowKit
attribute [local go_sem ↓] Go.wp_at_zero Go.wp_at_succ
theorem step_appendQ {ops : Array Oper} {o : Oper} {a : Act} {w : World} {K : Act → World → Prop} {Q : Exit → Act → World → Prop} {E : Prop} (hgd : o.guard = none) (s x : Operand) (T : TypeId) (hT : Tryz.prog.underlying T = some (.slice 3))
    (ho : o.op = .call { callee := .builtin .append, args := #[s, x], argTypes := #[T, T] }) (base : Nat) (v : Value) (l : List Int) (k : Int) (hs : a.eval s = v) (h : QRow base w v l)
    (g0 c : Nat) (hx : a.eval x = .slice (some ⟨g0, 0, none⟩) 1 c) (hb : Blk w g0 [.int .i64 k] 3) (hk : InI k) (hlen : (l.length + 1) * 8 ≤ 140737488351232) (hbase : base ≤ w.heap.size)
    (hK : ∀ v' w', QRow base w' v' (l ++ [k]) → w.grownBy w' v.ownBlock → (v'.ownBlock = v.ownBlock ∨ v'.ownBlock = some w.heap.size) → K (a.put o.dst v') w') :
    if Region.wanted o (yielded ops a.tmps) = true then Oper.wp Tryz.prog o a w K Q else E := by
  have hw : Region.wanted o (yielded ops a.tmps) = true := by simp [Region.wanted, hgd]
  rw [if_pos hw]
  exact wp_appendQ s x T hT ho base v l k hs h g0 c hx hb hk hlen hbase hK
def zR : List Value := [.bool false, .slice none 0 0, .bool false, .int .i64 0, .slice none 0 0, .slice none 0 0]
structure PSt (r : GR) (m : List Int) (w : World) (k : Nat) (vh vb0 vw0 va vb : Value) (wx : World) : Prop where
  box : Blk wx w.heap.size [.bool r.choice, vh, .bool r.sum, .int .i64 r.bound, vb0, vw0] 60
  res : Blk wx (w.heap.size + 1) zR 60
  out : Blk wx (w.heap.size + 1 + 1) [.bool false, .slice none 0 0, .bool r.sum, .int .i64 (redAt m r k).bound, va, vb] 60
  body : QRow (w.heap.size + 1 + 1 + 1) wx va (fstL (posP r k))
  wts : QRow (w.heap.size + 1 + 1 + 1) wx vb (if r.sum then sndL (posP r k) else [])
  apart : ∀ i, va.ownBlock = some i → vb.ownBlock ≠ some i
  below : Below w.heap.size w wx
  size : w.heap.size + 1 + 1 + 1 ≤ wx.heap.size
def PRel (r : GR) (m : List Int) (w : World) (vh vb0 vw0 : Value) (i : Value) (wx : World) : Prop :=
  ∃ k va vb, k ≤ r.body.length ∧ i = .int .i64 (k : Nat) ∧ PSt r m w k vh vb0 vw0 va vb wx ∧ Hid (r.sum = false → negF m r k = false)
def PosPost (r : GR) (m : List Int) (w : World) (e : Ending) (w' : World) : Prop :=
  match redB m r with
  | none => e = .returned (.tuple #[.agg #[.bool false, .slice none 0 0, .bool false, .int .i64 0, .slice none 0 0, .slice none 0 0], .bool false]) ∧ Below w.heap.size w w'
  | some x => ∃ va vb, e = .returned (.tuple #[.agg #[.bool false, .slice none 0 0, .bool x.sum, .int .i64 x.bound, va, vb], .bool true]) ∧ QRow w.heap.size w' va x.body ∧ QRow w.heap.size w' vb x.w ∧ Below w.heap.size w w'
theorem negW_le {m : List Int} {r : GR} (hw : ∀ k, k < r.body.length → 0 ≤ ix r.w k ∧ ix r.w k ≤ 1048576) : ∀ k, k ≤ r.body.length → 0 ≤ negW m r k ∧ negW m r k ≤ 1048576 * k
  | 0, _ => by simp [negW]
  | k + 1, hk => by
    have ih := negW_le (m := m) hw k (by omega)
    have := hw k (by omega)
    unfold negW; split <;> omega
theorem PSt.on {r : GR} {m : List Int} {w wx wy : World} {k : Nat} {vh vb0 vw0 va vb : Value} (h : PSt r m w k vh vb0 vw0 va vb wx) (hb : Below wx.heap.size wx wy) : PSt r m w k vh vb0 vw0 va vb wy :=
  ⟨h.box.below hb, h.res.below hb, h.out.below hb, h.body.below hb, h.wts.below hb, h.apart, bon h.below hb, Nat.le_trans h.size hb.size⟩
theorem QRow.own_ne {base : Nat} {w : World} {v : Value} {l : List Int} (h : QRow base w v l) {i : Nat} (hi : i < base ∨ w.heap.size ≤ i) : v.ownBlock ≠ some i := fun e => by
  rcases h.2 with ⟨rfl, _⟩ | ⟨g, off, cap, cur, rfl, hbg, hg, _⟩
  · cases e
  · have := (Array.getElem?_eq_some_iff.1 hg).1
    simp only [Value.ownBlock, Option.some.injEq] at e; omega
theorem PSt.pushed {r : GR} {m : List Int} {w wx w4 : World} {k : Nat} {vh vb0 vw0 va vb : Value} {o : Obj} (h : PSt r m w k vh vb0 vw0 va vb wx)
    (hg : (wx.alloc o).grownBy w4 va.ownBlock) : Blk w4 w.heap.size [.bool r.choice, vh, .bool r.sum, .int .i64 r.bound, vb0, vw0] 60 ∧ Blk w4 (w.heap.size + 1) zR 60 ∧
      Blk w4 (w.heap.size + 1 + 1) [.bool false, .slice none 0 0, .bool r.sum, .int .i64 (redAt m r k).bound, va, vb] 60 ∧ QRow (w.heap.size + 1 + 1 + 1) w4 vb (if r.sum then sndL (posP r k) else []) ∧ Below w.heap.size w w4 ∧ w.heap.size + 1 + 1 + 1 ≤ w4.heap.size := by
  have hs := h.size
  have hgs := hg.size
  simp only [World.size_alloc] at hgs
  have same : ∀ b, b < w.heap.size + 1 + 1 + 1 → w4.heap[b]? = wx.heap[b]? := fun b hb =>
    (hg.block b (by simp; omega) (fun e => h.body.own_ne (.inl hb) e.symm)).trans (Below.heap_alloc _ _ _ (by omega))
  refine ⟨h.box.same (same _ (by omega)), h.res.same (same _ (by omega)), h.out.same (same _ (by omega)), h.wts.kept fun i hi hi2 hu => ?_, ⟨hg.os.trans h.below.os, hg.tape.trans h.below.tape, hg.output.trans h.below.output, by omega, fun i hi => (same i (by omega)).trans (h.below.block i hi)⟩, by omega⟩
  exact (hg.block i (by simp; omega) (fun e => h.apart i e.symm hu)).trans (Below.heap_alloc _ _ _ hi2)
theorem PSt.pushed2 {r : GR} {w wx w4 : World} {vh vb0 vw0 va vb : Value} {o : Obj} (h : Blk wx w.heap.size [.bool r.choice, vh, .bool r.sum, .int .i64 r.bound, vb0, vw0] 60 ∧ Blk wx (w.heap.size + 1) zR 60)
    {c : List Value} (ho : Blk wx (w.heap.size + 1 + 1) c 60) {la lb : List Int} (ha : QRow (w.heap.size + 1 + 1 + 1) wx va la) (hb : QRow (w.heap.size + 1 + 1 + 1) wx vb lb) (hap : ∀ i, va.ownBlock = some i → vb.ownBlock ≠ some i) (hbl : Below w.heap.size w wx) (hs : w.heap.size + 1 + 1 + 1 ≤ wx.heap.size)
    (hg : (wx.alloc o).grownBy w4 vb.ownBlock) : Blk w4 w.heap.size [.bool r.choice, vh, .bool r.sum, .int .i64 r.bound, vb0, vw0] 60 ∧ Blk w4 (w.heap.size + 1) zR 60 ∧
      Blk w4 (w.heap.size + 1 + 1) c 60 ∧ QRow (w.heap.size + 1 + 1 + 1) w4 va la ∧ Below w.heap.size w w4 ∧ w.heap.size + 1 + 1 + 1 ≤ w4.heap.size := by
  have hgs := hg.size
  simp only [World.size_alloc] at hgs
  have same : ∀ b, b < w.heap.size + 1 + 1 + 1 → w4.heap[b]? = wx.heap[b]? := fun b hb' =>
    (hg.block b (by simp; omega) (fun e => hb.own_ne (.inl hb') e.symm)).trans (Below.heap_alloc _ _ _ (by omega))
  refine ⟨h.1.same (same _ (by omega)), h.2.same (same _ (by omega)), ho.same (same _ (by omega)), ha.kept fun i hi hi2 hu => ?_, ⟨hg.os.trans hbl.os, hg.tape.trans hbl.tape, hg.output.trans hbl.output, by omega, fun i hi => (same i (by omega)).trans (hbl.block i hi)⟩, by omega⟩
  exact (hg.block i (by simp; omega) (fun e => hap i hu e.symm)).trans (Below.heap_alloc _ _ _ hi2)
theorem PSt.apart4 {r : GR} {m : List Int} {w wx : World} {k : Nat} {vh vb0 vw0 va vb v4 : Value} {o : Obj} (h : PSt r m w k vh vb0 vw0 va vb wx) (hl : v4.ownBlock = va.ownBlock ∨ v4.ownBlock = some (wx.alloc o).heap.size) : ∀ i, v4.ownBlock = some i → vb.ownBlock ≠ some i := fun i e => by
  rcases hl with hl | hl
  · exact h.apart i (hl ▸ e)
  · rw [hl] at e
    have := Option.some.inj e
    simp only [World.size_alloc] at this
    exact h.wts.own_ne (.inr (by omega))
theorem negF_next {m : List Int} {r : GR} {k : Nat} (h : r.sum = false → negF m r k = false) (hk : ¬ (ix r.body k < 0 ∧ -(ix r.body k) ∈ m)) : r.sum = false → negF m r (k + 1) = false := fun hs => by
  unfold negF
  refine anyR_false fun j hj => ?_
  by_cases e : j = k
  · subst e
    rw [Bool.and_eq_false_iff, decide_eq_false_iff_not, decide_eq_false_iff_not]
    by_cases h1 : ix r.body j < 0
    · exact .inr fun h2 => hk ⟨h1, h2⟩
    · exact .inl h1
  · have := List.any_eq_false.1 (h hs) j (List.mem_range.2 (by omega))
    simpa using this
theorem red_end0 {m : List Int} {r : GR} (hs : r.sum = false) (h : r.sum = false → negF m r r.body.length = false) : redB m r = some (redAt m r r.body.length) := by
  unfold redB
  rw [if_neg (fun hh => by rw [h hs] at hh; exact Bool.noConfusion hh.2), if_neg (fun hh => by rw [hs] at hh; exact Bool.noConfusion hh.1)]
theorem red_end1 {m : List Int} {r : GR} (hs : r.sum = true) : redB m r = if r.bound - negW m r r.body.length ≤ 0 then some emptyR else some (redAt m r r.body.length) := by
  unfold redB
  rw [if_neg (fun hh => by rw [hs] at hh; exact Bool.noConfusion hh.1)]
  by_cases h : r.bound - negW m r r.body.length ≤ 0
  · rw [if_pos h, if_pos ⟨hs, h⟩]
  · rw [if_neg h, if_neg (fun hh => h hh.2)]
theorem pos_skip {r : GR} {k : Nat} (h : ¬ 0 < ix r.body k) : posP r (k + 1) = posP r k := by
  rw [posP, if_neg h]
theorem pos_take {r : GR} {k : Nat} (h : 0 < ix r.body k) : posP r (k + 1) = posP r k ++ [(ix r.body k, ix r.w k)] := by
  rw [posP, if_pos h]
theorem QRow.setFar {base : Nat} {w : World} {v : Value} {l : List Int} (h : QRow base w v l) {b : Nat} (o : Nat) (u : Value) (hb : b < base) : QRow base (w.setCell ⟨b, o, none⟩ u) v l :=
  h.kept fun i hi _ _ => Below.heap_setCell _ _ _ _ (by show i ≠ b; omega)
end Go.Proofs.YtfajkmmmmmfhiaaGreatDoor
namespace Go.Proofs.YtfajkmmmmmfhiaaGreatDoor
open Go.RowKit
attribute [local go_sem ↓] Go.wp_at_zero Go.wp_at_succ
theorem results_cell_row2 {P : Program} {fn : Func} {p u : Tmp} {ty : TypeId} (h : fn.results = #[.cell p ty, .tmp u]) (tmps : Array Value) (w : World) (g : Nat) (t : TypeId) (cs : Array Value) (fr : Nat × Nat) (d : TypeDesc)
    (hp : tmps.getD p undef = .pointer (some ⟨g, 0, none⟩)) (hg : w.heap[g]? = some (.cells cs t fr))
    (hu : P.underlying ty = some d) (hd : (match d with | .struct _ | .array _ _ => true | _ => false) = true) (hi : (P.info? ty).map (·.size) = some cs.size) :
    (results fn tmps).run P w = .ok (.tuple #[.agg cs, tmps.getD u undef]) w := by
  rw [results_cell_tmp h, hp]
  simp [asAddr, Result.andThen, run_loadVar_row w g t ty cs fr d hg hu hd hi]
theorem set6_blk {w : World} {b : Nat} {c : List Value} {t : TypeId} (h : Blk w b c t) (hc : c.length = 6) (v0 v1 v2 v3 v4 v5 : Value) :
    Blk ((((((w.setCell ⟨b, 0, none⟩ v0).setCell ⟨b, 1, none⟩ v1).setCell ⟨b, 2, none⟩ v2).setCell ⟨b, 3, none⟩ v3).setCell ⟨b, 4, none⟩ v4).setCell ⟨b, 5, none⟩ v5) b [v0, v1, v2, v3, v4, v5] t := by
  have := ((((((h.set 0 v0).set 1 v1).set 2 v2).set 3 v3).set 4 v4).set 5 v5)
  match c, hc with
  | [a0, a1, a2, a3, a4, a5], _ => exact this
theorem set6_below {w0 w : World} {b : Nat} (h : Below w0.heap.size w0 w) (hb : w0.heap.size ≤ b) (v0 v1 v2 v3 v4 v5 : Value) :
    Below w0.heap.size w0 ((((((w.setCell ⟨b, 0, none⟩ v0).setCell ⟨b, 1, none⟩ v1).setCell ⟨b, 2, none⟩ v2).setCell ⟨b, 3, none⟩ v3).setCell ⟨b, 4, none⟩ v4).setCell ⟨b, 5, none⟩ v5) :=
  (((((h.setCell (p := ⟨b, 0, none⟩) hb _).setCell (p := ⟨b, 1, none⟩) hb _).setCell (p := ⟨b, 2, none⟩) hb _).setCell (p := ⟨b, 3, none⟩) hb _).setCell (p := ⟨b, 4, none⟩) hb _).setCell (p := ⟨b, 5, none⟩) hb _
theorem set6_row {base : Nat} {w : World} {v : Value} {l : List Int} (h : QRow base w v l) {b : Nat} (hb : b < base) (v0 v1 v2 v3 v4 v5 : Value) :
    QRow base ((((((w.setCell ⟨b, 0, none⟩ v0).setCell ⟨b, 1, none⟩ v1).setCell ⟨b, 2, none⟩ v2).setCell ⟨b, 3, none⟩ v3).setCell ⟨b, 4, none⟩ v4).setCell ⟨b, 5, none⟩ v5) v l :=
  (((((h.setFar 0 v0 hb).setFar 1 v1 hb).setFar 2 v2 hb).setFar 3 v3 hb).setFar 4 v4 hb).setFar 5 v5 hb
theorem PSt.start (r : GR) (m : List Int) (w : World) (vh vb vw : Value) : PSt r m w 0 vh vb vw (.slice none 0 0) (.slice none 0 0) ((((w.alloc (.cells #[.bool r.choice, vh, .bool r.sum, .int .i64 r.bound, vb, vw] 60)).alloc (.cells #[.bool false, .slice none 0 0, .bool false, .int .i64 0, .slice none 0 0, .slice none 0 0] 60)).alloc (.cells #[.bool false, .slice none 0 0, .bool r.sum, .int .i64 r.bound, .slice none 0 0, .slice none 0 0] 60))) := by
  refine ⟨(by repeat first | (refine Blk.newAt _ _ _ ?_; first | rfl | (simp only [World.size_alloc]; done) | (simp only [World.size_alloc]; omega)) | refine Blk.alloc ?_ _), (by repeat first | (refine Blk.newAt _ _ _ ?_; first | rfl | (simp only [World.size_alloc]; done) | (simp only [World.size_alloc]; omega)) | refine Blk.alloc ?_ _), ?_, QRow.nil _ _, ?_, (fun i e => by cases e), (by (repeat first | exact Below.refl _ _ | (refine Below.setCell ?_ (by first | omega | (simp; done) | (simp; omega)) _) | (refine bal ?_ _))), by simp⟩
  · have e : (redAt m r 0).bound = r.bound := by unfold redAt; split <;> simp [negW]
    rw [e]; exact (by repeat first | (refine Blk.newAt _ _ _ ?_; first | rfl | (simp only [World.size_alloc]; done) | (simp only [World.size_alloc]; omega)) | refine Blk.alloc ?_ _)
  · have : (if r.sum then sndL (posP r 0) else []) = [] := by split <;> rfl
    rw [this]; exact QRow.nil _ _
theorem PSt.grown1 {r : GR} {m : List Int} {w w4 : World} {k : Nat} {vh vb0 vw0 va vb v4 : Value} (hs : r.sum = false) (hn : posP r (k + 1) = posP r k ++ [(ix r.body k, ix r.w k)])
    (h : Blk w4 w.heap.size [.bool r.choice, vh, .bool r.sum, .int .i64 r.bound, vb0, vw0] 60 ∧ Blk w4 (w.heap.size + 1) zR 60 ∧
      Blk w4 (w.heap.size + 1 + 1) [.bool false, .slice none 0 0, .bool r.sum, .int .i64 (redAt m r k).bound, va, vb] 60 ∧ QRow (w.heap.size + 1 + 1 + 1) w4 vb (if r.sum then sndL (posP r k) else []) ∧ Below w.heap.size w w4 ∧ w.heap.size + 1 + 1 + 1 ≤ w4.heap.size)
    (hq : QRow (w.heap.size + 1 + 1 + 1) w4 v4 (fstL (posP r k) ++ [ix r.body k])) (hap : ∀ i, v4.ownBlock = some i → vb.ownBlock ≠ some i) :
    PSt r m w (k + 1) vh vb0 vw0 v4 vb (w4.setCell ⟨w.heap.size + 1 + 1, 4, none⟩ v4) := by
  obtain ⟨h1, h2, h3, h4, h5, h6⟩ := h
  have e1 : (redAt m r (k + 1)).bound = (redAt m r k).bound := by unfold redAt; rw [hs]; rfl
  refine ⟨h1.setOther _ _ (by omega), h2.setOther _ _ (by omega), ?_, ?_, ?_, hap, h5.setCell (p := ⟨w.heap.size + 1 + 1, 4, none⟩) (by show w.heap.size ≤ w.heap.size + 1 + 1; omega) _, by rw [size_set]; omega⟩
  · rw [e1]; exact h3.set 4 _
  · rw [hn, fstL_snoc]; exact hq.setFar _ _ (by omega)
  · rw [hs] at h4 ⊢
    exact h4.setFar _ _ (by omega)
theorem PSt.next {r : GR} {m : List Int} {w wx : World} {k : Nat} {vh vb0 vw0 va vb : Value} (h : PSt r m w k vh vb0 vw0 va vb wx) (h0 : ¬ 0 < ix r.body k) (hb : (redAt m r (k + 1)).bound = (redAt m r k).bound) : PSt r m w (k + 1) vh vb0 vw0 va vb wx := by
  obtain ⟨h1, h2, h3, h4, h5, h6, h7, h8⟩ := h
  have e : posP r (k + 1) = posP r k := pos_skip h0
  exact ⟨h1, h2, by rw [hb]; exact h3, by rw [e]; exact h4, by rw [e]; exact h5, h6, h7, h8⟩
theorem red_bound0 {m : List Int} {r : GR} (hs : r.sum = false) (k : Nat) : (redAt m r k).bound = r.bound := by unfold redAt; rw [hs]; simp
theorem posPost_none {r : GR} {m : List Int} {w w' : World} {e : Ending} (h : redB m r = none) (he : e = .returned (.tuple #[.agg #[.bool false, .slice none 0 0, .bool false, .int .i64 0, .slice none 0 0, .slice none 0 0], .bool false])) (hb : Below w.heap.size w w') : PosPost r m w e w' := by
  unfold PosPost; rw [h]; exact ⟨he, hb⟩
theorem posPost_some {r x : GR} {m : List Int} {w w' : World} {e : Ending} {va vb : Value} (base : Nat) (hbase : w.heap.size ≤ base) (h : redB m r = some x) (he : e = .returned (.tuple #[.agg #[.bool false, .slice none 0 0, .bool x.sum, .int .i64 x.bound, va, vb], .bool true]))
    (ha : QRow base w' va x.body) (hw : QRow base w' vb x.w) (hb : Below w.heap.size w w') : PosPost r m w e w' := by
  unfold PosPost; rw [h]; exact ⟨va, vb, he, ha.mono hbase, hw.mono hbase, hb⟩
set_option maxHeartbeats 4000000 in
set_option maxRecDepth 100000 in
theorem positive_off (v : Value) (r : GR) (m : List Int) (mb : Nat) (n : Int) (w : World) (hr : RuleIs w v r) (h : InM w mb m) (hW : BodyW r n) (hs : r.sum = false) :
    Calls Tryz.prog 130 #[v, .func (.func 128) #[] #[.pointer (some ⟨mb, 0, none⟩)]] w (PosPost r m w) := by
  obtain ⟨vh, vb, vw, rfl, hsl⟩ := hr
  obtain ⟨a2, c2, rfl, -, hl2, -, hcb⟩ := hsl.body.form
  obtain ⟨a3, c3, rfl, -, hl3, -, hcw⟩ := hsl.wts.form
  have hbd := hsl.bound
  unfold InI at hbd
  have hlit : Hid (∀ j, j < r.body.length → ix r.body j ≠ 0 ∧ -4000 ≤ ix r.body j ∧ ix r.body j ≤ 4000) := Lib.hid (fun j hj => by have := hW.lit j hj; have := hW.v.rng; omega)
  have hlen := hW.v.ok.len
  have hb1 := hW.bound
  have hb0 := hW.v.bound
  have HWW := Lib.hid hW
  have HIN := Lib.hid h
  have HCB := Lib.hid hcb
  have HCW := Lib.hid hcw
  obtain ⟨ah, ch, rfl, -⟩ := hsl.head.form
  have HST := Lib.hid (PSt.start r m w (.slice ah r.head.length ch) (.slice a2 r.body.length c2) (.slice a3 r.w.length c3))
  clear h hcb hcw hsl
  have HS := Lib.hid hs
  rw [hs] at HST ⊢
  clear hs
  go_enter Tryz.func130, Tryz.ntmps130
  go_upto_region 2 with fail
  have kx := HST.out.box.cell
  rw [HS.out] at kx
  generalize ((((w.alloc (.cells #[.bool r.choice, .slice ah r.head.length ch, .bool false, .int .i64 r.bound, .slice a2 r.body.length c2, .slice a3 r.w.length c3] 60)).alloc (.cells #[.bool false, .slice none 0 0, .bool false, .int .i64 0, .slice none 0 0, .slice none 0 0] 60)).alloc (.cells #[.bool false, .slice none 0 0, .bool false, .int .i64 r.bound, .slice none 0 0, .slice none 0 0] 60))) = W0 at *
  go_wp2
  clear kx
  go_loopw [17] (fun i wx => PRel r m w (.slice ah r.head.length ch) (.slice a2 r.body.length c2) (.slice a3 r.w.length c3) i wx) (fun i _ => r.body.length - (intOf i).toNat)
  case atStart => exact ⟨0, _, _, Nat.zero_le _, rfl, HST.out, Lib.hid (fun _ => rfl)⟩
  case round =>
    obtain ⟨k, va, vb, hk, rfl, hp, HNF⟩ := hrel
    have HP := Lib.hid hp
    obtain ⟨hbx, hres, hout, hva, hvb, hap, hbl, hsz⟩ := hp
    rw [HS.out] at hbx hout
    have kx := hbx.cell
    have ky := hres.cell
    have fy := hres.free
    have kz := hout.cell
    have fz := hout.free
    have HINR := Lib.hid (HIN.out.below hbl)
    have HQA := Lib.hid hva
    have HQB := Lib.hid hvb
    have HAP := Lib.hid hap
    have HRES := Lib.hid hres
    have HBL := Lib.hid hbl
    unfold zR at ky
    have H6 : Hid (w.heap.size + 1 + 1 + 1 ≤ (wr.alloc (.cells #[.int .i64 (ix r.body k)] 3)).heap.size) := Lib.hid (by simp; omega)
    obtain ⟨na, ca, rfl⟩ : ∃ na ca, va = .slice na (fstL (posP r k)).length ca := by obtain ⟨a, c, e⟩ := hva.slen; exact ⟨a, c, e⟩
    have hpl : (fstL (posP r k)).length ≤ k := by rw [fstL_len]; exact posP_len r k
    obtain ⟨nb, mbn, cb, rfl⟩ := hvb.form
    clear hbx hres hout hva hvb hap
    by_cases hlt : k < r.body.length
    · obtain ⟨b, off, rfl, hbb, hc⟩ := HCB.out (by omega)
      have hcx : wr.cell? ⟨b, off + k, none⟩ = some (.int .i64 (ix r.body k)) := (bcell hbl _ _ hbb).trans (hc k hlt)
      have hl := hlit.out k hlt
      clear hc hbl
      by_cases h0 : 0 < ix r.body k
      · have HPT : Hid (posP r (k + 1) = posP r k ++ [(ix r.body k, ix r.w k)]) := Lib.hid (pos_take h0)
        have hxI : InI (ix r.body k) := by unfold InI; omega
        have hap8 : ((fstL (posP r k)).length + 1) * 8 ≤ 140737488351232 := by omega
        clear ky fy
        go_wp2_with (at_builtin; (refine wpList_appendQ rfl _ _ 23 Tryz.underlying23 rfl (w.heap.size + 1 + 1 + 1) _ (fstL (posP r k)) (ix r.body k) rfl (HQA.out.kept (w' := wr.alloc (.cells #[.int .i64 (ix r.body k)] 3)) (fun i h1 h2 _ => Below.heap_alloc _ _ _ h2)) wr.heap.size 1 rfl (Blk.new wr [.int .i64 (ix r.body k)] _) hxI hap8 H6.out ?_); intro v4 w4 hq4 hg4 hl4; have hpp := HP.out.pushed hg4; have HPP := Lib.hid hpp; have HQ4 := Lib.hid hq4; have HL4 := Lib.hid (HP.out.apart4 hl4); obtain ⟨a4, n4, c4, rfl⟩ := hq4.form; have k4 := hpp.2.2.1.cell; have f4 := hpp.2.2.1.free; have x4 := hpp.1.cell; rw [HS.out] at k4 x4; clear hpp hq4 hg4 hl4)
        first
          | (go_roundw
             case rel => (exact ⟨k + 1, _, _, hlt, by go_num, PSt.grown1 HS.out HPT.out HPP.out HQ4.out HL4.out, Lib.hid (negF_next HNF.out (fun h => by omega))⟩)
             case measure => (simp [intOf]; omega))
          | (refine ⟨?_, ?_⟩
             · (exact ⟨k + 1, _, _, hlt, by go_num, PSt.grown1 HS.out HPT.out HPP.out HQ4.out HL4.out, Lib.hid (negF_next HNF.out (fun h => by omega))⟩)
             · (simp [intOf]; omega))
      · have HBD : Hid ((redAt m r (k + 1)).bound = (redAt m r k).bound) := Lib.hid (by rw [red_bound0 HS.out, red_bound0 HS.out])
        cases hmb : decide (-(ix r.body k) ∈ m) with
        | false =>
          have HMB := Lib.hid hmb
          clear hmb
          go_wp2_with (go_at_call 128; (with_reducible refine (memb1_any _ m _ _ HINR.out).mono ?_); rintro e w1 ⟨e1, rfl⟩; rw [HMB.out] at e1; subst e1)
          first
            | (go_roundw
               case rel => (exact ⟨k + 1, _, _, hlt, by go_num, HP.out.next (by omega) HBD.out, Lib.hid (negF_next HNF.out (fun h => by have := of_decide_eq_false HMB.out; exact this h.2))⟩)
               case measure => (simp [intOf]; omega))
            | (refine ⟨?_, ?_⟩
               · (exact ⟨k + 1, _, _, hlt, by go_num, HP.out.next (by omega) HBD.out, Lib.hid (negF_next HNF.out (fun h => by have := of_decide_eq_false HMB.out; exact this h.2))⟩)
               · (simp [intOf]; omega))
        | true =>
          have HMB := Lib.hid hmb
          have HRED : Hid (redB m r = none) := Lib.hid (by unfold redB; rw [if_pos ⟨HS.out, by unfold negF; exact anyR_true k hlt (by rw [decide_eq_true (show ix r.body k < 0 by omega), hmb]; rfl)⟩])
          clear hmb
          go_wp2_with (go_at_call 128; (with_reducible refine (memb1_any _ m _ _ HINR.out).mono ?_); rintro e w1 ⟨e1, rfl⟩; rw [HMB.out] at e1; subst e1)
          (try simp only [Exit.inBlock, Exit.then])
          refine bodyPost_ret (results_cell_row2 rfl _ _ (w.heap.size + 1) 60 _ (0, 0) _ rfl (set6_blk HRES.out rfl _ _ _ _ _ _) Tryz.underlying60 rfl (by kernel_rfl)) rfl ?_
          exact posPost_none HRED.out rfl (set6_below HBL.out (by omega) _ _ _ _ _ _)
    · obtain rfl : k = r.body.length := by omega
      go_wp2
      (try simp only [Exit.inBlock, Exit.then])
      refine bodyPost_ret (results_cell_row2 rfl _ _ (w.heap.size + 1) 60 _ (0, 0) _ rfl (set6_blk HRES.out rfl _ _ _ _ _ _) Tryz.underlying60 rfl (by kernel_rfl)) rfl ?_
      exact posPost_some (w.heap.size + 1 + 1 + 1) (by omega) (red_end0 HS.out HNF.out) (by rw [show (redAt m r r.body.length).sum = false from HS.out]; rfl) (set6_row HQA.out (by omega) _ _ _ _ _ _) (set6_row HQB.out (by omega) _ _ _ _ _ _) (set6_below HBL.out (by omega) _ _ _ _ _ _)
theorem red_bound1 {m : List Int} {r : GR} (hs : r.sum = true) (k : Nat) : (redAt m r k).bound = r.bound - negW m r k := by unfold redAt; rw [hs]; rfl
theorem red_boundN {m : List Int} {r : GR} (hs : r.sum = true) {k : Nat} (h : ¬ (ix r.body k < 0 ∧ -(ix r.body k) ∉ m)) : (redAt m r (k + 1)).bound = (redAt m r k).bound := by
  rw [red_bound1 hs, red_bound1 hs, negW, if_neg h, Int.add_zero]
theorem red_boundM {m : List Int} {r : GR} (hs : r.sum = true) {k : Nat} (h1 : ix r.body k < 0) (h2 : -(ix r.body k) ∉ m) : (redAt m r (k + 1)).bound = (redAt m r k).bound - ix r.w k := by
  rw [red_bound1 hs, red_bound1 hs, negW, if_pos ⟨h1, h2⟩]; omega
theorem PSt.sub {r : GR} {m : List Int} {w wx : World} {k : Nat} {x : Int} {vh vb0 vw0 va vb : Value} (h : PSt r m w k vh vb0 vw0 va vb wx) (h0 : ¬ 0 < ix r.body k) (hb : (redAt m r (k + 1)).bound = x) :
    PSt r m w (k + 1) vh vb0 vw0 va vb (wx.setCell ⟨w.heap.size + 1 + 1, 3, none⟩ (.int .i64 x)) := by
  obtain ⟨h1, h2, h3, h4, h5, h6, h7, h8⟩ := h
  have e : posP r (k + 1) = posP r k := pos_skip h0
  refine ⟨h1.setOther _ _ (by omega), h2.setOther _ _ (by omega), ?_, ?_, ?_, h6, h7.setCell (p := ⟨w.heap.size + 1 + 1, 3, none⟩) (by show w.heap.size ≤ w.heap.size + 1 + 1; omega) _, by rw [size_set]; exact h8⟩
  · rw [hb]; exact h3.set 3 _
  · rw [e]; exact h4.setFar _ _ (by omega)
  · rw [e]; exact h5.setFar _ _ (by omega)
theorem grown_undrew {w w' : World} {r : Option Nat} (h : w.drew.grownBy w' r) : w.grownBy w' r := ⟨h.os, h.tape, h.output, h.size, h.block⟩
theorem PSt.mid {r : GR} {m : List Int} {w w4 : World} {k : Nat} {vh vb0 vw0 va vb v4 : Value} {x : Int}
    (h : Blk w4 w.heap.size [.bool r.choice, vh, .bool r.sum, .int .i64 r.bound, vb0, vw0] 60 ∧ Blk w4 (w.heap.size + 1) zR 60 ∧
      Blk w4 (w.heap.size + 1 + 1) [.bool false, .slice none 0 0, .bool r.sum, .int .i64 (redAt m r k).bound, va, vb] 60 ∧ QRow (w.heap.size + 1 + 1 + 1) w4 vb (if r.sum then sndL (posP r k) else []) ∧ Below w.heap.size w w4 ∧ w.heap.size + 1 + 1 + 1 ≤ w4.heap.size)
    (hq : QRow (w.heap.size + 1 + 1 + 1) w4 v4 (fstL (posP r k) ++ [x])) :
    (Blk (w4.setCell ⟨w.heap.size + 1 + 1, 4, none⟩ v4) w.heap.size [.bool r.choice, vh, .bool r.sum, .int .i64 r.bound, vb0, vw0] 60 ∧ Blk (w4.setCell ⟨w.heap.size + 1 + 1, 4, none⟩ v4) (w.heap.size + 1) zR 60) ∧
      Blk (w4.setCell ⟨w.heap.size + 1 + 1, 4, none⟩ v4) (w.heap.size + 1 + 1) [.bool false, .slice none 0 0, .bool r.sum, .int .i64 (redAt m r k).bound, v4, vb] 60 ∧
      QRow (w.heap.size + 1 + 1 + 1) (w4.setCell ⟨w.heap.size + 1 + 1, 4, none⟩ v4) v4 (fstL (posP r k) ++ [x]) ∧ QRow (w.heap.size + 1 + 1 + 1) (w4.setCell ⟨w.heap.size + 1 + 1, 4, none⟩ v4) vb (if r.sum then sndL (posP r k) else []) ∧
      Below w.heap.size w (w4.setCell ⟨w.heap.size + 1 + 1, 4, none⟩ v4) ∧ w.heap.size + 1 + 1 + 1 ≤ (w4.setCell ⟨w.heap.size + 1 + 1, 4, none⟩ v4).heap.size := by
  obtain ⟨h1, h2, h3, h4, h5, h6⟩ := h
  exact ⟨⟨h1.setOther _ _ (by omega), h2.setOther _ _ (by omega)⟩, h3.set 4 _, hq.setFar _ _ (by omega), h4.setFar _ _ (by omega), h5.setCell (p := ⟨w.heap.size + 1 + 1, 4, none⟩) (by show w.heap.size ≤ w.heap.size + 1 + 1; omega) _, by rw [size_set]; omega⟩
theorem wsum_pos {l : List Int} {n : Nat} (h : ∀ k, k < n → 1 ≤ ix l k ∧ ix l k ≤ 1048576 - sumTo l k) : ∀ k, k ≤ n → 0 ≤ sumTo l k
  | 0, _ => by simp [sumTo]
  | k + 1, hk => by
    have ih := wsum_pos h k (by omega)
    have := h k (by omega)
    unfold sumTo; omega
theorem PSt.grown2 {r : GR} {m : List Int} {w w4 w5 : World} {k : Nat} {vh vb0 vw0 v4 vb v5 : Value} {o : Obj} (hs : r.sum = true) (hn : posP r (k + 1) = posP r k ++ [(ix r.body k, ix r.w k)])
    (h : Blk w4 w.heap.size [.bool r.choice, vh, .bool r.sum, .int .i64 r.bound, vb0, vw0] 60 ∧ Blk w4 (w.heap.size + 1) zR 60)
    (ho : Blk w4 (w.heap.size + 1 + 1) [.bool false, .slice none 0 0, .bool r.sum, .int .i64 (redAt m r k).bound, v4, vb] 60)
    (hq4 : QRow (w.heap.size + 1 + 1 + 1) w4 v4 (fstL (posP r k) ++ [ix r.body k])) (hqb : QRow (w.heap.size + 1 + 1 + 1) w4 vb (sndL (posP r k))) (hap : ∀ i, v4.ownBlock = some i → vb.ownBlock ≠ some i) (hbl : Below w.heap.size w w4) (hsz : w.heap.size + 1 + 1 + 1 ≤ w4.heap.size)
    (hx : (redAt m r (k + 1)).bound = (redAt m r k).bound)
    (hg : (w4.alloc o).grownBy w5 vb.ownBlock) (hl : v5.ownBlock = vb.ownBlock ∨ v5.ownBlock = some (w4.alloc o).heap.size) (hq5 : QRow (w.heap.size + 1 + 1 + 1) w5 v5 (sndL (posP r k) ++ [ix r.w k])) :
    PSt r m w (k + 1) vh vb0 vw0 v4 v5 (w5.setCell ⟨w.heap.size + 1 + 1, 5, none⟩ v5) := by
  obtain ⟨h1, h2, h3, h4, h5, h6⟩ := PSt.pushed2 h ho hq4 hqb hap hbl hsz hg
  refine ⟨h1.setOther _ _ (by omega), h2.setOther _ _ (by omega), ?_, ?_, ?_, ?_, h5.setCell (p := ⟨w.heap.size + 1 + 1, 5, none⟩) (by show w.heap.size ≤ w.heap.size + 1 + 1; omega) _, by rw [size_set]; omega⟩
  · rw [hx]; exact h3.set 5 _
  · rw [hn, fstL_snoc]; exact h4.setFar _ _ (by omega)
  · rw [hs, if_pos rfl, hn, sndL_snoc]; exact hq5.setFar _ _ (by omega)
  · intro i e e5
    rcases hl with hl | hl
    · exact hap i e (hl ▸ e5)
    · rw [hl] at e5
      have := Option.some.inj e5
      simp only [World.size_alloc] at this
      exact hq4.own_ne (.inr (by omega)) e
set_option maxHeartbeats 4000000 in
set_option maxRecDepth 100000 in
theorem positive_on (v : Value) (r : GR) (m : List Int) (mb : Nat) (n : Int) (w : World) (hr : RuleIs w v r) (h : InM w mb m) (hW : BodyW r n) (hs : r.sum = true) :
    Calls Tryz.prog 130 #[v, .func (.func 128) #[] #[.pointer (some ⟨mb, 0, none⟩)]] w (PosPost r m w) := by
  obtain ⟨vh, vb, vw, rfl, hsl⟩ := hr
  obtain ⟨a2, c2, rfl, -, hl2, -, hcb⟩ := hsl.body.form
  obtain ⟨a3, c3, rfl, -, hl3, -, hcw⟩ := hsl.wts.form
  have hbd := hsl.bound
  unfold InI at hbd
  have hlit : Hid (∀ j, j < r.body.length → ix r.body j ≠ 0 ∧ -4000 ≤ ix r.body j ∧ ix r.body j ≤ 4000) := Lib.hid (fun j hj => by have := hW.lit j hj; have := hW.v.rng; omega)
  have hlen := hW.v.ok.len
  have hb1 := hW.bound
  have hb0 := hW.v.bound
  have HWW := Lib.hid hW
  have HIN := Lib.hid h
  have HCB := Lib.hid hcb
  have HCW := Lib.hid hcw
  obtain ⟨ah, ch, rfl, -⟩ := hsl.head.form
  have HST := Lib.hid (PSt.start r m w (.slice ah r.head.length ch) (.slice a2 r.body.length c2) (.slice a3 r.w.length c3))
  clear h hcb hcw hsl
  have HS := Lib.hid hs
  have HWL := Lib.hid (hW.wts hs).1
  have HWT : Hid (∀ k, k < r.body.length → 1 ≤ ix r.w k ∧ ix r.w k ≤ 1048576) := Lib.hid (fun k hk => by
    have h1 := (hW.wts hs).2 k hk
    have h2 := wsum_pos (hW.wts hs).2 k (by omega)
    omega)
  have HNW : Hid (∀ k, k ≤ r.body.length → 0 ≤ negW m r k ∧ negW m r k ≤ 1048576 * k) := Lib.hid (negW_le fun k hk => by have := HWT.out k hk; omega)
  rw [hs] at HST ⊢
  clear hs
  go_enter Tryz.func130, Tryz.ntmps130
  go_upto_region 2 with fail
  have kx := HST.out.box.cell
  rw [HS.out] at kx
  generalize ((((w.alloc (.cells #[.bool r.choice, .slice ah r.head.length ch, .bool true, .int .i64 r.bound, .slice a2 r.body.length c2, .slice a3 r.w.length c3] 60)).alloc (.cells #[.bool false, .slice none 0 0, .bool false, .int .i64 0, .slice none 0 0, .slice none 0 0] 60)).alloc (.cells #[.bool false, .slice none 0 0, .bool true, .int .i64 r.bound, .slice none 0 0, .slice none 0 0] 60))) = W0 at *
  go_wp2
  clear kx
  go_loopw [17] (fun i wx => PRel r m w (.slice ah r.head.length ch) (.slice a2 r.body.length c2) (.slice a3 r.w.length c3) i wx) (fun i _ => r.body.length - (intOf i).toNat)
  case atStart => exact ⟨0, _, _, Nat.zero_le _, rfl, HST.out, Lib.hid (fun _ => rfl)⟩
  case round =>
    obtain ⟨k, va, vb, hk, rfl, hp, HNF⟩ := hrel
    have HP := Lib.hid hp
    obtain ⟨hbx, hres, hout, hva, hvb, hap, hbl, hsz⟩ := hp
    rw [HS.out] at hbx hout
    have kx := hbx.cell
    have ky := hres.cell
    have fy := hres.free
    have kz := hout.cell
    have fz := hout.free
    have HINR := Lib.hid (HIN.out.below hbl)
    have HQA := Lib.hid hva
    have HQB := Lib.hid hvb
    have HAP := Lib.hid hap
    have HRES := Lib.hid hres
    have HBL := Lib.hid hbl
    unfold zR at ky
    have H6 : Hid (w.heap.size + 1 + 1 + 1 ≤ (wr.alloc (.cells #[.int .i64 (ix r.body k)] 3)).heap.size) := Lib.hid (by simp; omega)
    obtain ⟨na, ca, rfl⟩ : ∃ na ca, va = .slice na (fstL (posP r k)).length ca := by obtain ⟨a, c, e⟩ := hva.slen; exact ⟨a, c, e⟩
    have hpl : (fstL (posP r k)).length ≤ k := by rw [fstL_len]; exact posP_len r k
    obtain ⟨nb, mbn, cb, rfl⟩ := hvb.form
    clear hbx hres hout hva hvb hap
    by_cases hlt : k < r.body.length
    · obtain ⟨b, off, rfl, hbb, hc⟩ := HCB.out (by omega)
      have hcx : wr.cell? ⟨b, off + k, none⟩ = some (.int .i64 (ix r.body k)) := (bcell hbl _ _ hbb).trans (hc k hlt)
      obtain ⟨bw, offw, rfl, hbw, hcw⟩ := HCW.out (by have := HWL.out; omega)
      have hcy : wr.cell? ⟨bw, offw + k, none⟩ = some (.int .i64 (ix r.w k)) := (bcell hbl _ _ hbw).trans (hcw k (by have := HWL.out; omega))
      have HCY : Hid (∀ w', Below w.heap.size w w' → w'.cell? ⟨bw, offw + k, none⟩ = some (.int .i64 (ix r.w k))) := Lib.hid (fun w' hb => (bcell hb _ _ hbw).trans (hcw k (by have := HWL.out; omega)))
      have hl := hlit.out k hlt
      have hwk := HWT.out k hlt
      clear hc hbl hcw
      by_cases h0 : 0 < ix r.body k
      · have HPT : Hid (posP r (k + 1) = posP r k ++ [(ix r.body k, ix r.w k)]) := Lib.hid (pos_take h0)
        have HBD : Hid ((redAt m r (k + 1)).bound = (redAt m r k).bound) := Lib.hid (red_boundN HS.out (fun h => by omega))
        have hxI : InI (ix r.body k) := by unfold InI; omega
        have hap8 : ((fstL (posP r k)).length + 1) * 8 ≤ 140737488351232 := by omega
        clear ky fy
        go_upto_region 8 with (at_builtin; (refine wpList_appendQ rfl _ _ 23 Tryz.underlying23 rfl (w.heap.size + 1 + 1 + 1) _ (fstL (posP r k)) (ix r.body k) rfl (HQA.out.kept (w' := wr.alloc (.cells #[.int .i64 (ix r.body k)] 3)) (fun i h1 h2 _ => Below.heap_alloc _ _ _ h2)) wr.heap.size 1 rfl (Blk.new wr [.int .i64 (ix r.body k)] _) hxI hap8 H6.out ?_); intro v4 w4 hq4 hg4 hl4; have hpp := HP.out.pushed hg4; have HPP := Lib.hid hpp; have HQ4 := Lib.hid hq4; have HL4 := Lib.hid (HP.out.apart4 hl4); obtain ⟨a4, n4, c4, rfl⟩ := hq4.form; have k4 := hpp.2.2.1.cell; have f4 := hpp.2.2.1.free; have x4 := hpp.1.cell; rw [HS.out] at k4 x4; clear hpp hq4 hg4 hl4)
        have hm5 := PSt.mid HPP.out HQ4.out
        have HM5 := Lib.hid hm5
        obtain ⟨⟨hx5, -⟩, ho5, -, -, hbl5, hsz5⟩ := hm5
        rw [HS.out] at hx5 ho5
        have kx5 := hx5.cell
        have kz5 := ho5.cell
        have fz5 := ho5.free
        have kw5 := HCY.out _ hbl5
        clear k4 f4 x4 kx kz fz hx5 ho5 hbl5
        generalize w4.setCell ⟨w.heap.size + 1 + 1, 4, none⟩ (.slice a4 n4 c4) = W5 at *
        have hki : (0 : Int) ≤ (k : Int) := Int.natCast_nonneg _
        have hkw : (k : Int) < (r.w.length : Int) := by have := HWL.out; omega
        have HQB5 : Hid (QRow (w.heap.size + 1 + 1 + 1) W5 (.slice nb mbn cb) (sndL (posP r k))) := Lib.hid (by have := HM5.out.2.2.2.1; rw [HS.out] at this; exact this)
        have hwI : InI (ix r.w k) := by unfold InI; omega
        have hap9 : ((sndL (posP r k)).length + 1) * 8 ≤ 140737488351232 := by rw [sndL_len, ← fstL_len]; omega
        have H65 : Hid (w.heap.size + 1 + 1 + 1 ≤ (W5.alloc (.cells #[.int .i64 (ix r.w k)] 3)).drew.heap.size) := Lib.hid (Nat.le_trans hsz5 (by simp))
        have ax5 := fun ob o => (bcell (bal (Below.refl _ W5) ob) w.heap.size o (by omega)).trans (kx5 o)
        have az5 := fun ob o => (bcell (bal (Below.refl _ W5) ob) (w.heap.size + 1 + 1) o (by omega)).trans (kz5 o)
        have aw5 := fun ob => HCY.out _ (bal HM5.out.2.2.2.2.1 ob)
        go_region_law
          ((refine step_appendQ rfl _ _ 23 Tryz.underlying23 (by rfl) (w.heap.size + 1 + 1 + 1) (.slice nb mbn cb) (sndL (posP r k)) (ix r.w k) (by rfl) (HQB5.out.kept (w' := (W5.alloc (.cells #[.int .i64 (ix r.w k)] 3)).drew) (fun i h1 h2 _ => Below.heap_alloc _ _ _ h2)) W5.heap.size 1 (by rfl) (Blk.new W5 [.int .i64 (ix r.w k)] _) hwI hap9 H65.out ?_; intro v5 w5 hq5 hg5 hl5; have hpp5 := PSt.pushed2 HM5.out.1 HM5.out.2.1 HM5.out.2.2.1 HQB5.out HL4.out HM5.out.2.2.2.2.1 HM5.out.2.2.2.2.2 (grown_undrew hg5); have HG5 := Lib.hid (grown_undrew hg5); have HQ5 := Lib.hid hq5; have HL5 := Lib.hid hl5; have x6 := hpp5.1.cell; have z6 := hpp5.2.2.1.cell; have f6 := hpp5.2.2.1.free; have w6 := HCY.out _ hpp5.2.2.2.2.1; rw [HS.out] at x6 z6; clear hpp5 hg5 hl5; obtain ⟨a5, n5, c5, rfl⟩ := hq5.form; clear hq5))
        all_goals (
          go_wp2
          first
            | (go_roundw
               case rel => (exact ⟨k + 1, _, _, hlt, by go_num, PSt.grown2 HS.out HPT.out HM5.out.1 HM5.out.2.1 HM5.out.2.2.1 HQB5.out HL4.out HM5.out.2.2.2.2.1 HM5.out.2.2.2.2.2 HBD.out HG5.out HL5.out HQ5.out, Lib.hid (negF_next HNF.out (fun h => by omega))⟩)
               case measure => (simp [intOf]; omega))
            | (refine ⟨?_, ?_⟩
               · (exact ⟨k + 1, _, _, hlt, by go_num, PSt.grown2 HS.out HPT.out HM5.out.1 HM5.out.2.1 HM5.out.2.2.1 HQB5.out HL4.out HM5.out.2.2.2.2.1 HM5.out.2.2.2.2.2 HBD.out HG5.out HL5.out HQ5.out, Lib.hid (negF_next HNF.out (fun h => by omega))⟩)
               · (simp [intOf]; omega)))
      · have hbk : -9000000000 ≤ (redAt m r k).bound ∧ (redAt m r k).bound ≤ 1048576 := by have hnk := HNW.out k hk; rw [red_bound1 (m := m) HS.out k]; omega
        cases hmb : decide (-(ix r.body k) ∈ m) with
        | true =>
          have HMB := Lib.hid hmb
          have HBD : Hid ((redAt m r (k + 1)).bound = (redAt m r k).bound) := Lib.hid (red_boundN HS.out (fun h => h.2 (of_decide_eq_true hmb)))
          clear hmb
          go_wp2_with (go_at_call 128; (with_reducible refine (memb1_any _ m _ _ HINR.out).mono ?_); rintro e w1 ⟨e1, rfl⟩; rw [HMB.out] at e1; subst e1)
          first
            | (go_roundw
               case rel => (exact ⟨k + 1, _, _, hlt, by go_num, HP.out.next (by omega) HBD.out, Lib.hid (fun e => by rw [HS.out] at e; cases e)⟩)
               case measure => (simp [intOf]; omega))
            | (refine ⟨?_, ?_⟩
               · (exact ⟨k + 1, _, _, hlt, by go_num, HP.out.next (by omega) HBD.out, Lib.hid (fun e => by rw [HS.out] at e; cases e)⟩)
               · (simp [intOf]; omega))
        | false =>
          have HMB := Lib.hid hmb
          have HBD : Hid ((redAt m r (k + 1)).bound = (redAt m r k).bound - ix r.w k) := Lib.hid (red_boundM HS.out (by omega) (of_decide_eq_false hmb))
          have hki : (0 : Int) ≤ (k : Int) := Int.natCast_nonneg _
          have hkw : (k : Int) < (r.w.length : Int) := by have := HWL.out; omega
          clear hmb
          go_upto_region 10 with (go_at_call 128; (with_reducible refine (memb1_any _ m _ _ HINR.out).mono ?_); rintro e w1 ⟨e1, rfl⟩; rw [HMB.out] at e1; subst e1)
          go_region_law (fail)
          all_goals (
            go_wp2
            first
              | (go_roundw
                 case rel => (exact ⟨k + 1, _, _, hlt, by go_num, (HP.out.sub (by omega) HBD.out).on ((Below.refl _ _).drew), Lib.hid (fun e => by rw [HS.out] at e; cases e)⟩)
                 case measure => (simp [intOf]; omega))
              | (refine ⟨?_, ?_⟩
                 · (exact ⟨k + 1, _, _, hlt, by go_num, (HP.out.sub (by omega) HBD.out).on ((Below.refl _ _).drew), Lib.hid (fun e => by rw [HS.out] at e; cases e)⟩)
                 · (simp [intOf]; omega)))
    · obtain rfl : k = r.body.length := by omega
      have hbk := red_bound1 (m := m) HS.out r.body.length
      have HRE := Lib.hid (red_end1 (m := m) HS.out)
      by_cases hle : (redAt m r r.body.length).bound ≤ 0
      · have HRED : Hid (redB m r = some emptyR) := Lib.hid (by rw [HRE.out, if_pos (by omega)])
        clear hbk
        go_wp2
        (try simp only [Exit.inBlock, Exit.then])
        refine bodyPost_ret (results_cell_row2 rfl _ _ (w.heap.size + 1) 60 _ (0, 0) _ rfl (set6_blk HRES.out rfl _ _ _ _ _ _) Tryz.underlying60 rfl (by kernel_rfl)) rfl ?_
        exact posPost_some (w.heap.size + 1 + 1 + 1) (by omega) HRED.out rfl (QRow.nil _ _) (QRow.nil _ _) (set6_below HBL.out (by omega) _ _ _ _ _ _)
      · have HRED : Hid (redB m r = some (redAt m r r.body.length)) := Lib.hid (by rw [HRE.out, if_neg (by omega)])
        clear hbk
        go_wp2
        (try simp only [Exit.inBlock, Exit.then])
        refine bodyPost_ret (results_cell_row2 rfl _ _ (w.heap.size + 1) 60 _ (0, 0) _ rfl (set6_blk HRES.out rfl _ _ _ _ _ _) Tryz.underlying60 rfl (by kernel_rfl)) rfl ?_
        exact posPost_some (w.heap.size + 1 + 1 + 1) (by omega) HRED.out (by rw [show (redAt m r r.body.length).sum = true from HS.out]; rfl) (set6_row HQA.out (by omega) _ _ _ _ _ _) (set6_row HQB.out (by omega) _ _ _ _ _ _) (set6_below HBL.out (by omega) _ _ _ _ _ _)
theorem positive_any (v : Value) (r : GR) (m : List Int) (mb : Nat) (n : Int) (w : World) (hr : RuleIs w v r) (h : InM w mb m) (hW : BodyW r n) :
    Calls Tryz.prog 130 #[v, .func (.func 128) #[] #[.pointer (some ⟨mb, 0, none⟩)]] w (PosPost r m w) := by
  cases hs : r.sum with
  | false => exact positive_off v r m mb n w hr h hW hs
  | true => exact positive_on v r m mb n w hr h hW hs
end Go.Proofs.YtfajkmmmmmfhiaaGreatDoor
namespace Go.Proofs.YtfajkmmmmmfhiaaGreatDoor
open Go.RowKit
attribute [local go_sem] memUpon
structure Mine (B : Nat) (v : Value) (L : List RQ) (w : World) : Prop where
  row : w.ownsRow B 60 6 v L.length (L.flatMap cells6)
  each : ∀ q ∈ L, QRow B w q.2.1 q.1.head ∧ QRow B w q.2.2.1 q.1.body ∧ QRow B w q.2.2.2 q.1.w ∧ InI q.1.bound
theorem Mine.nil (B : Nat) (w : World) : Mine B (.slice none 0 0) [] w := ⟨⟨by simp, .inl ⟨rfl, rfl⟩⟩, fun q hq => by simp at hq⟩
section
variable {B n : Nat} {xs : List Value} {v : Value} {w w' : World} {L : List RQ}
theorem QRow.rowKept {u : Value} {l : List Int} (h : QRow B w u l) (hr : w.ownsRow B 60 6 v n xs) (hg : w.grownBy w' v.ownBlock) : QRow B w' u l := by
  refine h.kept fun i hi hi2 hu => hg.block i hi2 (fun e => ?_)
  rcases hr.2 with ⟨rfl, _⟩ | ⟨g, cap, cur, rfl, hb, hgg, _⟩
  · cases e
  · simp only [Value.ownBlock, Option.some.injEq] at e
    subst e
    rcases h.2 with ⟨rfl, _⟩ | ⟨g', off, cap', cur', rfl, _, hgg', _⟩
    · cases hu
    · simp only [Value.ownBlock, Option.some.injEq] at hu
      subst hu
      rw [hgg'] at hgg
      have := Option.some.inj hgg
      injection this with _ h2 _
      revert h2; decide
theorem Mine.below (h : Mine B v L w) (hb : Below w.heap.size w w') : Mine B v L w' :=
  ⟨rowBelow h.row hb, fun q hq => let ⟨h1, h2, h3, h4⟩ := h.each q hq; ⟨h1.below hb, h2.below hb, h3.below hb, h4⟩⟩
theorem Mine.push {g cap : Nat} {q : RQ} (h : Mine B v L w) (hq : QRow B w q.2.1 q.1.head ∧ QRow B w q.2.2.1 q.1.body ∧ QRow B w q.2.2.2 q.1.w ∧ InI q.1.bound)
    (hown : w'.ownsRow B 60 6 (.slice (some ⟨g, 0, none⟩) (L.length + 1) cap) (L.length + 1) (L.flatMap cells6 ++ cells6 q)) (hg : w.grownBy w' v.ownBlock) : Mine B (.slice (some ⟨g, 0, none⟩) (L.length + 1) cap) (L ++ [q]) w' := by
  refine ⟨by simpa using hown, fun q' hq' => ?_⟩
  simp only [List.mem_append, List.mem_singleton] at hq'
  rcases hq' with hq' | rfl
  · obtain ⟨h1, h2, h3, h4⟩ := h.each q' hq'
    exact ⟨h1.rowKept h.row hg, h2.rowKept h.row hg, h3.rowKept h.row hg, h4⟩
  · obtain ⟨h1, h2, h3, h4⟩ := hq
    exact ⟨h1.rowKept h.row hg, h2.rowKept h.row hg, h3.rowKept h.row hg, h4⟩
theorem Mine.setCell (h : Mine B v L w) {b : Nat} (o : Nat) (u : Value) (hb : b < B) : Mine B v L (w.setCell ⟨b, o, none⟩ u) := by
  have hk : ∀ i, B ≤ i → (w.setCell ⟨b, o, none⟩ u).heap[i]? = w.heap[i]? := fun i hi => Below.heap_setCell _ _ _ _ (show i ≠ b by omega)
  refine ⟨⟨h.row.1, ?_⟩, fun q hq => let ⟨h1, h2, h3, h4⟩ := h.each q hq; ⟨h1.kept fun i hi _ _ => hk i hi, h2.kept fun i hi _ _ => hk i hi, h3.kept fun i hi _ _ => hk i hi, h4⟩⟩
  rcases h.row.2 with hn | ⟨g, cap, cur, e, hbg, hgg, rest⟩
  · exact .inl hn
  · exact .inr ⟨g, cap, cur, e, hbg, (hk g hbg).trans hgg, rest⟩
theorem Mine.rules (h : Mine B v L w) (l : List GR) (hl : L.map (·.1) = l) (hfit : L.length * 88 ≤ 140737488351232) (hlen : ∀ q ∈ L, q.1.head.length * 8 ≤ 140737488351232 ∧ q.1.body.length * 8 ≤ 140737488351232 ∧ q.1.w.length * 8 ≤ 140737488351232) :
    RulesAt w v l (fun i => (L.getD i default).2.1) (fun i => (L.getD i default).2.2.1) (fun i => (L.getD i default).2.2.2) := by
  have hlen' : l.length = L.length := by rw [← hl]; simp
  have hq : ∀ i, i < l.length → L.getD i default ∈ L ∧ (L.getD i default).1 = ixR l i := fun i hi => by
    have hi' : i < L.length := by omega
    have e : L.getD i default = L[i] := by simp [List.getD_eq_getElem?_getD, List.getElem?_eq_getElem hi']
    rw [e]
    refine ⟨List.getElem_mem hi', ?_⟩
    subst hl
    simp [ixR, List.getD_eq_getElem?_getD, List.getElem?_eq_getElem hi']
  refine ⟨?_, fun i hi => ?_⟩
  · rw [hlen']
    rcases h.row.2 with ⟨rfl, h0⟩ | ⟨g, cap, cur, rfl, hb, hg, hn, hm, hs, hx⟩
    · exact ⟨none, 0, by rw [h0], by omega, by unfold maxLen; omega, by omega, fun hp => by omega⟩
    · refine ⟨_, cap, rfl, hn, hm, hfit, fun _ => ⟨g, 0, rfl, (Array.getElem?_eq_some_iff.1 hg).1, fun i hi j hj => ?_⟩⟩
      have h6 := flat6 L i j hi hj
      rw [← hx, List.getElem?_take_of_lt (by omega)] at h6
      rw [cell_of_row w g (0 + i * 6 + j) cur _ (0, 0) hg, Nat.zero_add]
      have e2 := (hq i (by omega)).2
      dsimp only
      rw [← e2]
      have : cur[i * 6 + j]? = cur.toList[i * 6 + j]? := by simp
      rw [this, h6]
      rcases (show j = 0 ∨ j = 1 ∨ j = 2 ∨ j = 3 ∨ j = 4 ∨ j = 5 by omega) with rfl | rfl | rfl | rfl | rfl | rfl <;> rfl
  · obtain ⟨hm, e⟩ := hq i hi
    obtain ⟨h1, h2, h3, h4⟩ := h.each _ hm
    obtain ⟨g1, g2, g3⟩ := hlen _ hm
    rw [← e]
    exact ⟨h1.ints g1, h2.ints g2, h3.ints g3, h4⟩
end
structure MW (B H : Nat) (ar : Option Addr) (n : Nat) (L : List RQ) (w : World) : Prop where
  row : 0 < n → ∃ b off cur, ar = some ⟨b, off, none⟩ ∧ B ≤ b ∧ b < H ∧ Blk w b cur 60 ∧ ∀ i, i < n → cur[off + i * 6 + 4]? = some (L.getD i default).2.2.1 ∧ ∃ bd : Int, cur[off + i * 6 + 3]? = some (.int .i64 bd)
  body : ∀ i, i < n → ∃ a c, (L.getD i default).2.2.1 = .slice a (L.getD i default).1.body.length c ∧ (0 < (L.getD i default).1.body.length → ∃ g off cur, a = some ⟨g, off, none⟩ ∧ B ≤ g ∧ g < H ∧ Blk w g cur 3 ∧ off + (L.getD i default).1.body.length ≤ cur.length)
section
variable {B H n : Nat} {ar : Option Addr} {L : List RQ} {w w' : World}
theorem MW.below (h : MW B H ar n L w) (hb : Below w.heap.size w w') : MW B H ar n L w' :=
  ⟨fun h0 => let ⟨b, off, cur, e, h1, h2, h3, h4⟩ := h.row h0; ⟨b, off, cur, e, h1, h2, h3.below hb, h4⟩,
   fun i hi => let ⟨a, c, e, k⟩ := h.body i hi; ⟨a, c, e, fun h0 => let ⟨g, off, cur, e, h1, h2, h3, h4⟩ := k h0; ⟨g, off, cur, e, h1, h2, h3.below hb, h4⟩⟩⟩
theorem MW.at {b off k nb c : Nat} {a : Option Addr} (h : MW B H (some ⟨b, off, none⟩) n L w) (hk : k < n) (e : (L.getD k default).2.2.1 = .slice a nb c) :
    (∃ cur, Blk w b cur 60 ∧ B ≤ b ∧ b < H) ∧ w.cell? ⟨b, off + k * 6 + 4, none⟩ = some (.slice a nb c) ∧ (∃ bd : Int, w.cell? ⟨b, off + k * 6 + 3, none⟩ = some (.int .i64 bd)) ∧ w.frozen? ⟨b, off + k * 6 + 3, none⟩ = false ∧
      (0 < nb → ∃ g off2 cur2, a = some ⟨g, off2, none⟩ ∧ B ≤ g ∧ g < H ∧ Blk w g cur2 3 ∧ off2 + nb ≤ cur2.length) := by
  obtain ⟨b', off', cur, e1, h1, h2, h3, h4⟩ := h.row (by omega)
  simp only [Option.some.injEq, Addr.mk.injEq, and_true] at e1
  obtain ⟨rfl, rfl⟩ := e1
  obtain ⟨k1, bd, k2⟩ := h4 k hk
  rw [e] at k1
  obtain ⟨a', c', e', k5⟩ := h.body k hk
  rw [e] at e'
  simp only [Value.slice.injEq] at e'
  obtain ⟨rfl, rfl, rfl⟩ := e'
  exact ⟨⟨cur, h3, h1, h2⟩, (h3.cell _).trans k1, ⟨bd, (h3.cell _).trans k2⟩, h3.free _, k5⟩
end
end Go.Proofs.YtfajkmmmmmfhiaaGreatDoor
namespace Go.Proofs.YtfajkmmmmmfhiaaGreatDoor
open Go.RowKit
theorem QRow.of_own {base : Nat} {w : World} {v : Value} {l : List Int} (h : OwnI base w v l) : QRow base w v l := by
  obtain ⟨⟨⟨h1, h2⟩, h3⟩, h4⟩ := h
  refine ⟨h4, ?_⟩
  rcases h2 with ⟨rfl, e⟩ | ⟨g, cap, cur, rfl, hb, hg, hn, hm, hs, hx⟩
  · refine .inl ⟨rfl, ?_⟩
    have : l.length = 0 := e
    exact List.eq_nil_of_length_eq_zero this
  · refine .inr ⟨g, 0, cap, cur, rfl, hb, hg, hn, hm, by omega, fun i hi => ?_⟩
    have h5 : (cur.toList.take (l.length * 1))[i]? = some (.int .i64 (ix l i)) := by rw [hx]; simp [hi]
    rw [List.getElem?_take_of_lt (by omega)] at h5
    rw [Nat.zero_add]
    simpa using h5
def rowOf (rb : Nat) (w : World) : Option Nat := (w.cell? ⟨rb, 0, none⟩).bind Value.ownBlock
def CK (rb : Nat) (W W' : World) : Prop :=
  ((∀ g, rowOf rb W = some g → g < W.heap.size) → ∀ g, rowOf rb W' = some g → g < W'.heap.size) ∧
  ∀ i o, W.heap[i]? = some o → o.isCells = true → i ≠ rb → rowOf rb W ≠ some i → W'.heap[i]? = some o ∧ rowOf rb W' ≠ some i
theorem CK.trans {rb : Nat} {A B C : World} (h : CK rb A B) (k : CK rb B C) : CK rb A C :=
  ⟨fun h0 => k.1 (h.1 h0), fun i o h1 h2 h3 h4 => let ⟨h5, h6⟩ := h.2 i o h1 h2 h3 h4; k.2 i o h5 h2 h3 h6⟩
def RKp (n0 rb : Nat) (W W' : World) : Prop := Lim n0 [rb] W W' ∧ CK rb W W'
theorem rowOf_same {rb : Nat} {W W' : World} (h : W'.heap[rb]? = W.heap[rb]?) : rowOf rb W' = rowOf rb W := by
  unfold rowOf; rw [World.cell?_of_block h]
theorem RKp.trans {n0 rb : Nat} {A B C : World} (h : RKp n0 rb A B) (k : RKp n0 rb B C) : RKp n0 rb A C := ⟨h.1.trans k.1, h.2.trans k.2⟩
theorem CK.put {rb l : Nat} {W : World} {o o' : Obj} (h : W.heap[l]? = some o) (hc : o.isCells = false) (hne : l ≠ rb) : CK rb W (W.putObj l o') := by
  have hrb : (W.putObj l o').heap[rb]? = W.heap[rb]? := World.putObj_heap_other (fun e => hne e.symm)
  have hsz : (W.putObj l o').heap.size = W.heap.size := by simp [World.putObj]
  refine ⟨fun h0 g hg => ?_, fun i o1 h1 h2 h3 h4 => ⟨?_, ?_⟩⟩
  · rw [rowOf_same hrb] at hg; rw [hsz]; exact h0 g hg
  · refine (World.putObj_heap_other (fun e => ?_)).trans h1
    subst e
    rw [h] at h1
    cases h1
    rw [hc] at h2; cases h2
  · rw [rowOf_same hrb]; exact h4
theorem CK.below {rb : Nat} {W W' : World} (h : Below W.heap.size W W') (hrb : rb < W.heap.size) : CK rb W W' := by
  have hr := rowOf_same (h.block rb hrb)
  exact ⟨fun h0 g hg => by rw [hr] at hg; have := h0 g hg; have := h.size; omega, fun i o h1 h2 h3 h4 => ⟨(h.block i (Array.getElem?_eq_some_iff.1 h1).1).trans h1, by rw [hr]; exact h4⟩⟩
theorem CK.blk {rb : Nat} {W W' : World} (h : CK rb W W') {b : Nat} {c : List Value} {t : TypeId} (hb : Blk W b c t) (h1 : b ≠ rb) (h2 : rowOf rb W ≠ some b) : Blk W' b c t ∧ rowOf rb W' ≠ some b := h.2 b _ hb rfl h1 h2
theorem CK.row {rb base : Nat} {W W' : World} (h : CK rb W W') {v : Value} {l : List Int} (hq : QRow base W v l) (hrb : rb < base) (hf : ∀ i, v.ownBlock = some i → rowOf rb W ≠ some i) : QRow base W' v l ∧ ∀ i, v.ownBlock = some i → rowOf rb W' ≠ some i := by
  rcases hq.2 with ⟨rfl, rfl⟩ | ⟨g, off, cap, cur, rfl, hb, hg, r⟩
  · exact ⟨QRow.nil _ _, fun i e => by cases e⟩
  · have h1 := h.2 g _ hg rfl (by omega) (hf g rfl)
    exact ⟨⟨hq.1, .inr ⟨g, off, cap, cur, rfl, hb, h1.1, r⟩⟩, fun i e => by simp only [Value.ownBlock, Option.some.injEq] at e; subst e; exact h1.2⟩
structure RedSt (wi w0 : World) (m : List Int) (pb fb mb rb : Nat) (vp : List Value) : Prop where
  below : Below wi.heap.size wi w0
  pb : Blk w0 pb vp 27
  fb : Blk w0 fb [.func (.func 128) #[] #[.pointer (some ⟨mb, 0, none⟩)]] 92
  inm : InM w0 mb m
  row : Blk w0 rb [.slice none 0 0] 24
  rlo : wi.heap.size ≤ rb
theorem Blk.lim {n rb b : Nat} {w w' : World} {c : List Value} {t : TypeId} (h : Blk w b c t) (hl : Lim n [rb] w w') (hb : b < n) (hne : b ≠ rb) : Blk w' b c t := h.same (hl.block b hb (by simpa using hne))
theorem Blk.ne_ty {w : World} {b b' : Nat} {c c' : List Value} {t t' : TypeId} (h : Blk w b c t) (k : Blk w b' c' t') (hne : t ≠ t') : b ≠ b' := fun e => by
  subst e
  unfold Blk at h k
  rw [h] at k
  injection k with k
  injection k with _ k _
  exact hne k
theorem MapIs.ne_blk {w : World} {bm b : Nat} {g : Int → Option Value} {c : List Value} {t : TypeId} (h : MapIs (Value.int .i64) w bm g) (k : Blk w b c t) : bm ≠ b := fun e => by
  subst e
  obtain ⟨es, clock, hm, -⟩ := h
  unfold Blk at k
  rw [hm] at k
  cases k
theorem InM.lim {w w' : World} {mb rb : Nat} {m : List Int} {c : List Value} (h : InM w mb m) (hr : Blk w rb c 24) (hl : Lim w.heap.size [rb] w w') : InM w' mb m := by
  obtain ⟨b, G, h1, h2, h3⟩ := h
  refine ⟨b, G, h1.lim hl h1.lt (h1.ne_ty hr (by decide)), h2.same (hl.block b h2.lt ?_), h3⟩
  simpa using MapIs.ne_blk h2 hr
def RedR (B : Nat) (q : RQ) (W : World) : Prop := q.1.choice = false ∧ QRow B W q.2.1 q.1.head ∧ QRow B W q.2.2.1 q.1.body ∧ QRow B W q.2.2.2 q.1.w ∧ InI q.1.bound
def redEnc (q : RQ) : Array Value := #[.agg #[.bool false, q.2.1, .bool q.1.sum, .int .i64 q.1.bound, q.2.2.1, q.2.2.2]]
def rqs (l : List RQ) : List GR := l.map (·.1)
theorem rqs_snoc (l : List RQ) (q : RQ) : rqs (l ++ [q]) = rqs l ++ [q.1] := by simp [rqs]
theorem rqs_len (l : List RQ) : (rqs l).length = l.length := by simp [rqs]
theorem red_form {m : List Int} {r x : GR} {n : Int} (hr : BodyW r n) (h : redB m r = some x) : x.choice = false ∧ x.head = [] ∧ InI x.bound := by
  have hb := hr.v.bound
  have hb1 := hr.bound
  unfold redB at h
  split at h
  · cases h
  · split at h
    · cases h
      exact ⟨rfl, rfl, by unfold InI emptyR; simp⟩
    · rename_i h1 h2
      cases h
      refine ⟨rfl, rfl, ?_⟩
      show InI (r.bound - (if r.sum then negW m r r.body.length else 0))
      cases hs : r.sum with
      | false => rw [if_neg (by simp)]; unfold InI; omega
      | true =>
        have hn := negW_nonneg (m := m) (fun k hk => by have := ((hr.wts hs).2 k hk).1; omega) _ (Nat.le_refl r.body.length)
        have : ¬ r.bound - negW m r r.body.length ≤ 0 := fun h => h2 ⟨hs, h⟩
        rw [if_pos rfl]; unfold InI; omega
theorem posOut_none {r : GR} {m : List Int} {w w' : World} {e : Ending} (h : redB m r = none) (hp : PosPost r m w e w') : e = .returned (.tuple #[.agg #[.bool false, .slice none 0 0, .bool false, .int .i64 0, .slice none 0 0, .slice none 0 0], .bool false]) ∧ Below w.heap.size w w' := by
  unfold PosPost at hp; rw [h] at hp; exact hp
theorem posOut_some {r x : GR} {m : List Int} {w w' : World} {e : Ending} (h : redB m r = some x) (hp : PosPost r m w e w') : ∃ a2 n2 c2 a3 n3 c3, e = .returned (.tuple #[.agg #[.bool false, .slice none 0 0, .bool x.sum, .int .i64 x.bound, .slice a2 n2 c2, .slice a3 n3 c3], .bool true]) ∧
    QRow w.heap.size w' (.slice a2 n2 c2) x.body ∧ QRow w.heap.size w' (.slice a3 n3 c3) x.w ∧ Below w.heap.size w w' := by
  unfold PosPost at hp; rw [h] at hp
  obtain ⟨va, vb, e1, h1, h2, h3⟩ := hp
  obtain ⟨a2, n2, c2, rfl⟩ := h1.form
  obtain ⟨a3, n3, c3, rfl⟩ := h2.form
  exact ⟨a2, n2, c2, a3, n3, c3, e1, h1, h2, h3⟩
def redCh (m : List Int) (x : GR) (hd : List Int) (j : Nat) : List GR := ((hd.take j).filter (fun a => decide (a ∈ m))).map (fun a => withHead x [a])
theorem redCh_in {m : List Int} {x : GR} {hd : List Int} {j : Nat} (hj : j < hd.length) (h : decide (ix hd j ∈ m) = true) : redCh m x hd (j + 1) = redCh m x hd j ++ [withHead x [ix hd j]] := by
  unfold redCh
  rw [take_ixM _ j hj, List.filter_append, List.map_append, List.filter_cons_of_pos (by simpa using h)]
  rfl
theorem redCh_out {m : List Int} {x : GR} {hd : List Int} {j : Nat} (hj : j < hd.length) (h : decide (ix hd j ∈ m) = false) : redCh m x hd (j + 1) = redCh m x hd j := by
  unfold redCh
  rw [take_ixM _ j hj, List.filter_append, List.map_append, List.filter_cons_of_neg (by simpa using h)]
  simp
theorem redTo_choice {p : GP} {m : List Int} {k : Nat} {x : GR} (h : redB m (ixR p.rules k) = some x) (hc : (ixR p.rules k).choice = true) : redTo p m (k + 1) = redTo p m k ++ redCh m x (ixR p.rules k).head (ixR p.rules k).head.length := by
  rw [redTo, redR, h, hc]
  unfold redCh
  rw [List.take_length]
  rfl
theorem redTo_plain {p : GP} {m : List Int} {k : Nat} {x : GR} (h : redB m (ixR p.rules k) = some x) (hc : (ixR p.rules k).choice = false) : redTo p m (k + 1) = redTo p m k ++ [withHead x (ixR p.rules k).head] := by
  rw [redTo, redR, h, hc]
  rfl
theorem redTo_none {p : GP} {m : List Int} {k : Nat} (h : redB m (ixR p.rules k) = none) : redTo p m (k + 1) = redTo p m k := by
  rw [redTo, redR, h]
  simp
theorem redTo_mono {p : GP} {m : List Int} : ∀ n k, k ≤ n → (redTo p m k).length ≤ (redTo p m n).length
  | 0, k, h => by obtain rfl : k = 0 := by omega
                  exact Nat.le_refl _
  | n + 1, k, h => by
    by_cases e : k = n + 1
    · subst e; exact Nat.le_refl _
    · have := redTo_mono (p := p) (m := m) n k (by omega)
      have e2 : redTo p m (n + 1) = redTo p m n ++ redR m (ixR p.rules n) := rfl
      rw [e2, List.length_append]; omega
theorem redCh_le (m : List Int) (x : GR) (hd : List Int) (j : Nat) : (redCh m x hd j).length ≤ (redCh m x hd hd.length).length := by
  unfold redCh
  rw [List.length_map, List.length_map, List.take_length]
  exact (List.take_sublist j hd).filter _ |>.length_le
theorem QRow.boxed {base : Nat} {w2 w4 : World} {v : Value} {l : List Int} (h : QRow base w2 v l) (hb : Below w2.heap.size w2 w4) (o : Nat) (u : Value) : QRow base (w4.setCell ⟨w2.heap.size, o, none⟩ u) v l :=
  h.kept fun i _ hi _ => (Below.heap_setCell _ _ _ _ (show i ≠ w2.heap.size by omega)).trans (hb.block i hi)
end Go.Proofs.YtfajkmmmmmfhiaaGreatDoor
