/- My texts Rdc1, Rdc2, Rdc3, Rdc5, Rdc6, Lv41, Uv41, Sp41, merged. -/
import Derived.Test.YtfajkmmmmmfhiaaGreatDoorM07
import Derived.Test.YtfajkmmmmmfhiaaGreatDoorM06
import Derived.Test.YtfajkmmmmmfhiaaGreatDoorM05
import Derived.Test.YtfajkmmmmmfhiaaGreatDoorM04
import Derived.Test.YtfajkmmmmmfhiaaGreatDoorM03
import Derived.Test.YtfajkmmmmmfhiaaGreatDoorM00
import Derived.Test.YtfajkmmmmmfhiaaGreatDoorProg
import Derived.WalkKit
import Derived.Lib.Hide
import Derived.Deep.QuietTactic
import Derived.BigQuiet
import Derived.WalkSpells
import Derived.Lib.SliceRun
import Derived.MapKept
import Derived.Maps.OwnSet
import Derived.Maps.OwnOps
import Derived.Test.YtfajkmmmmmfhiaaGreatDoorM02
import Derived.Test.YtfajkmmmmmfhiaaGreatDoorM01
import Derived.Deep.AppendLies
import Derived.Lib.Bytealg
import Derived.Deep.DeepCutAuto
import Derived.Laws.EntriesVeiled
import Derived.Deep.RegionWith
import Derived.Deep.OwnRows
import Derived.RangeFuncNested
import Derived.RangeFuncBound
import Derived.RangeFuncCalls
import Derived.RangeFuncLeaves
import Derived.OwnWalkIn
import Derived.TacticsInMore
import Derived.LoopNIn
import Derived.LoopIn
import Derived.Stop.RegionWithIn
import Derived.Shelf.Abstract
import Derived.Deep.LoopGhost
import Derived.Deep.DrawnRows
import Derived.Deep.RegionHeld3
import Derived.Laws.ResultCell
import Derived.Laws.Rows
import Derived.Deep.RegionLaw
import Derived.Test.YtfajkmmmmmfhiaaGreatDoorM18
import Derived.Test.YtfajkmmmmmfhiaaGreatDoorM09
import Derived.Deep.AppendSrc
import Derived.Maps.OwnIn
import Derived.Test.YtfajkmmmmmfhiaaGreatDoorM13
import Derived.Test.YtfajkmmmmmfhiaaGreatDoorM11
import Derived.Test.YtfajkmmmmmfhiaaGreatDoorM10
import Derived.Test.YtfajkmmmmmfhiaaGreatDoorM08
import Derived.Shelf.Sort.Plain
import Derived.Shelf.Slices.CompactI
import Derived.Shelf.Slices.In.SortNone
import Derived.Shelf.Strconv.Itoa3
import Derived.Shelf.Strings.BuilderK
import Derived.Shelf.Slices.SearchI
import Derived.Shelf.Slices.Empties
import Derived.Lib.SlicesCompact
import Derived.Sort.OwnSortedInts
import Derived.Test.YtfajkmmmmmfhiaaGreatDoorM12
import Derived.Sort.QuietThIn
import Derived.Maps.RangeWalk
import Derived.RangeFuncBox
import Derived.Lib.RowBridge
import Derived.Test.YtfajkmmmmmfhiaaGreatDoorM15
import Derived.Test.YtfajkmmmmmfhiaaGreatDoorM16
import Derived.Test.YtfajkmmmmmfhiaaGreatDoorM14
import Derived.Test.YtfajkmmmmmfhiaaGreatDoorM17
import Derived.Lib.ItoaNum
import Derived.Sort.CutIn
import Derived.Deep.DeepMust
import Derived.ProofKit
import Derived.OpenShut
import Derived.ChangeArms
import Derived.SizedLaws

namespace Go.Proofs.YtfajkmmmmmfhiaaGreatDoor
open Go.RowKit
attribute [local go_sem ↓] Go.wp_at_zero Go.wp_at_succ
def zR : List Value := [.bool false, .slice none 0 0, .bool false, .int .i64 0, .slice none 0 0, .slice none 0 0]
structure PSt (r : GR) (m : List Int) (w : World) (k : Nat) (vh vb0 vw0 va vb : Value) (wx : World) : Prop where
  box : Blk wx w.heap.size [.bool r.choice, vh, .bool r.sum, .int .i64 r.bound, vb0, vw0] 60
  res : Blk wx (w.heap.size + 1) zR 60
  out : Blk wx (w.heap.size + 1 + 1) [.bool false, .slice none 0 0, .bool r.sum, .int .i64 (redAt m r k).bound, va, vb] 60
  body : QRow (w.heap.size + 1 + 1 + 1) wx va (fstL (posP r k))
  wts : QRow (w.heap.size + 1 + 1 + 1) wx vb (if r.sum then sndL (posP r k) else [])
  apart : ∀ i, va.ownBlock = some i → vb.ownBlock ≠ some i
  below : Below w.heap.size w wx
  size : w.heap.size + 1 + 1 + 1 ≤ wx.heap.size
theorem PSt.on {r : GR} {m : List Int} {w wx wy : World} {k : Nat} {vh vb0 vw0 va vb : Value} (h : PSt r m w k vh vb0 vw0 va vb wx) (hb : Below wx.heap.size wx wy) : PSt r m w k vh vb0 vw0 va vb wy :=
  ⟨h.box.below hb, h.res.below hb, h.out.below hb, h.body.below hb, h.wts.below hb, h.apart, bon h.below hb, Nat.le_trans h.size hb.size⟩
theorem pos_skip {r : GR} {k : Nat} (h : ¬ 0 < ix r.body k) : posP r (k + 1) = posP r k := by
  rw [posP, if_neg h]
theorem QRow.setFar {base : Nat} {w : World} {v : Value} {l : List Int} (h : QRow base w v l) {b : Nat} (o : Nat) (u : Value) (hb : b < base) : QRow base (w.setCell ⟨b, o, none⟩ u) v l :=
  h.kept fun i hi _ _ => Below.heap_setCell _ _ _ _ (by show i ≠ b; omega)
end Go.Proofs.YtfajkmmmmmfhiaaGreatDoor
namespace Go.Proofs.YtfajkmmmmmfhiaaGreatDoor
open Go.RowKit
attribute [local go_sem ↓] Go.wp_at_zero Go.wp_at_succ
theorem PSt.start (r : GR) (m : List Int) (w : World) (vh vb vw : Value) : PSt r m w 0 vh vb vw (.slice none 0 0) (.slice none 0 0) ((((w.alloc (.cells #[.bool r.choice, vh, .bool r.sum, .int .i64 r.bound, vb, vw] 60)).alloc (.cells #[.bool false, .slice none 0 0, .bool false, .int .i64 0, .slice none 0 0, .slice none 0 0] 60)).alloc (.cells #[.bool false, .slice none 0 0, .bool r.sum, .int .i64 r.bound, .slice none 0 0, .slice none 0 0] 60))) := by
  refine ⟨(by repeat first | (refine Blk.newAt _ _ _ ?_; first | rfl | (simp only [World.size_alloc]; done) | (simp only [World.size_alloc]; omega)) | refine Blk.alloc ?_ _), (by repeat first | (refine Blk.newAt _ _ _ ?_; first | rfl | (simp only [World.size_alloc]; done) | (simp only [World.size_alloc]; omega)) | refine Blk.alloc ?_ _), ?_, QRow.nil _ _, ?_, (fun i e => by cases e), (by (repeat first | exact Below.refl _ _ | (refine Below.setCell ?_ (by first | omega | (simp; done) | (simp; omega)) _) | (refine bal ?_ _))), by simp⟩
  · have e : (redAt m r 0).bound = r.bound := by unfold redAt; split <;> simp [negW]
    rw [e]; exact (by repeat first | (refine Blk.newAt _ _ _ ?_; first | rfl | (simp only [World.size_alloc]; done) | (simp only [World.size_alloc]; omega)) | refine Blk.alloc ?_ _)
  · have : (if r.sum then sndL (posP r 0) else []) = [] := by split <;> rfl
    rw [this]; exact QRow.nil _ _
theorem PSt.next {r : GR} {m : List Int} {w wx : World} {k : Nat} {vh vb0 vw0 va vb : Value} (h : PSt r m w k vh vb0 vw0 va vb wx) (h0 : ¬ 0 < ix r.body k) (hb : (redAt m r (k + 1)).bound = (redAt m r k).bound) : PSt r m w (k + 1) vh vb0 vw0 va vb wx := by
  obtain ⟨h1, h2, h3, h4, h5, h6, h7, h8⟩ := h
  have e : posP r (k + 1) = posP r k := pos_skip h0
  exact ⟨h1, h2, by rw [hb]; exact h3, by rw [e]; exact h4, by rw [e]; exact h5, h6, h7, h8⟩
theorem PSt.sub {r : GR} {m : List Int} {w wx : World} {k : Nat} {x : Int} {vh vb0 vw0 va vb : Value} (h : PSt r m w k vh vb0 vw0 va vb wx) (h0 : ¬ 0 < ix r.body k) (hb : (redAt m r (k + 1)).bound = x) :
    PSt r m w (k + 1) vh vb0 vw0 va vb (wx.setCell ⟨w.heap.size + 1 + 1, 3, none⟩ (.int .i64 x)) := by
  obtain ⟨h1, h2, h3, h4, h5, h6, h7, h8⟩ := h
  have e : posP r (k + 1) = posP r k := pos_skip h0
  refine ⟨h1.setOther _ _ (by omega), h2.setOther _ _ (by omega), ?_, ?_, ?_, h6, h7.setCell (p := ⟨w.heap.size + 1 + 1, 3, none⟩) (by show w.heap.size ≤ w.heap.size + 1 + 1; omega) _, by rw [size_set]; exact h8⟩
  · rw [hb]; exact h3.set 3 _
  · rw [e]; exact h4.setFar _ _ (by omega)
  · rw [e]; exact h5.setFar _ _ (by omega)
end Go.Proofs.YtfajkmmmmmfhiaaGreatDoor
namespace Go.Proofs.YtfajkmmmmmfhiaaGreatDoor
open Go.RowKit
def rowOf (rb : Nat) (w : World) : Option Nat := (w.cell? ⟨rb, 0, none⟩).bind Value.ownBlock
def CK (rb : Nat) (W W' : World) : Prop :=
  ((∀ g, rowOf rb W = some g → g < W.heap.size) → ∀ g, rowOf rb W' = some g → g < W'.heap.size) ∧
  ∀ i o, W.heap[i]? = some o → o.isCells = true → i ≠ rb → rowOf rb W ≠ some i → W'.heap[i]? = some o ∧ rowOf rb W' ≠ some i
theorem CK.trans {rb : Nat} {A B C : World} (h : CK rb A B) (k : CK rb B C) : CK rb A C :=
  ⟨fun h0 => k.1 (h.1 h0), fun i o h1 h2 h3 h4 => let ⟨h5, h6⟩ := h.2 i o h1 h2 h3 h4; k.2 i o h5 h2 h3 h6⟩
def RKp (n0 rb : Nat) (W W' : World) : Prop := Lim n0 [rb] W W' ∧ CK rb W W'
theorem rowOf_same {rb : Nat} {W W' : World} (h : W'.heap[rb]? = W.heap[rb]?) : rowOf rb W' = rowOf rb W := by
  unfold rowOf; rw [World.cell?_of_block h]
theorem RKp.trans {n0 rb : Nat} {A B C : World} (h : RKp n0 rb A B) (k : RKp n0 rb B C) : RKp n0 rb A C := ⟨h.1.trans k.1, h.2.trans k.2⟩
theorem CK.put {rb l : Nat} {W : World} {o o' : Obj} (h : W.heap[l]? = some o) (hc : o.isCells = false) (hne : l ≠ rb) : CK rb W (W.putObj l o') := by
  have hrb : (W.putObj l o').heap[rb]? = W.heap[rb]? := World.putObj_heap_other (fun e => hne e.symm)
  have hsz : (W.putObj l o').heap.size = W.heap.size := by simp [World.putObj]
  refine ⟨fun h0 g hg => ?_, fun i o1 h1 h2 h3 h4 => ⟨?_, ?_⟩⟩
  · rw [rowOf_same hrb] at hg; rw [hsz]; exact h0 g hg
  · refine (World.putObj_heap_other (fun e => ?_)).trans h1
    subst e
    rw [h] at h1
    cases h1
    rw [hc] at h2; cases h2
  · rw [rowOf_same hrb]; exact h4
theorem CK.below {rb : Nat} {W W' : World} (h : Below W.heap.size W W') (hrb : rb < W.heap.size) : CK rb W W' := by
  have hr := rowOf_same (h.block rb hrb)
  exact ⟨fun h0 g hg => by rw [hr] at hg; have := h0 g hg; have := h.size; omega, fun i o h1 h2 h3 h4 => ⟨(h.block i (Array.getElem?_eq_some_iff.1 h1).1).trans h1, by rw [hr]; exact h4⟩⟩
theorem CK.blk {rb : Nat} {W W' : World} (h : CK rb W W') {b : Nat} {c : List Value} {t : TypeId} (hb : Blk W b c t) (h1 : b ≠ rb) (h2 : rowOf rb W ≠ some b) : Blk W' b c t ∧ rowOf rb W' ≠ some b := h.2 b _ hb rfl h1 h2
theorem CK.row {rb base : Nat} {W W' : World} (h : CK rb W W') {v : Value} {l : List Int} (hq : QRow base W v l) (hrb : rb < base) (hf : ∀ i, v.ownBlock = some i → rowOf rb W ≠ some i) : QRow base W' v l ∧ ∀ i, v.ownBlock = some i → rowOf rb W' ≠ some i := by
  rcases hq.2 with ⟨rfl, rfl⟩ | ⟨g, off, cap, cur, rfl, hb, hg, r⟩
  · exact ⟨QRow.nil _ _, fun i e => by cases e⟩
  · have h1 := h.2 g _ hg rfl (by omega) (hf g rfl)
    exact ⟨⟨hq.1, .inr ⟨g, off, cap, cur, rfl, hb, h1.1, r⟩⟩, fun i e => by simp only [Value.ownBlock, Option.some.injEq] at e; subst e; exact h1.2⟩
theorem Blk.lim {n rb b : Nat} {w w' : World} {c : List Value} {t : TypeId} (h : Blk w b c t) (hl : Lim n [rb] w w') (hb : b < n) (hne : b ≠ rb) : Blk w' b c t := h.same (hl.block b hb (by simpa using hne))
theorem Blk.ne_ty {w : World} {b b' : Nat} {c c' : List Value} {t t' : TypeId} (h : Blk w b c t) (k : Blk w b' c' t') (hne : t ≠ t') : b ≠ b' := fun e => by
  subst e
  unfold Blk at h k
  rw [h] at k
  injection k with k
  injection k with _ k _
  exact hne k
theorem MapIs.ne_blk {w : World} {bm b : Nat} {g : Int → Option Value} {c : List Value} {t : TypeId} (h : MapIs (Value.int .i64) w bm g) (k : Blk w b c t) : bm ≠ b := fun e => by
  subst e
  obtain ⟨es, clock, hm, -⟩ := h
  unfold Blk at k
  rw [hm] at k
  cases k
theorem InM.lim {w w' : World} {mb rb : Nat} {m : List Int} {c : List Value} (h : InM w mb m) (hr : Blk w rb c 24) (hl : Lim w.heap.size [rb] w w') : InM w' mb m := by
  obtain ⟨b, G, h1, h2, h3⟩ := h
  refine ⟨b, G, h1.lim hl h1.lt (h1.ne_ty hr (by decide)), h2.same (hl.block b h2.lt ?_), h3⟩
  simpa using MapIs.ne_blk h2 hr
def RedR (B : Nat) (q : RQ) (W : World) : Prop := q.1.choice = false ∧ QRow B W q.2.1 q.1.head ∧ QRow B W q.2.2.1 q.1.body ∧ QRow B W q.2.2.2 q.1.w ∧ InI q.1.bound
structure ChSt (rb n1 t5 t6 : Nat) (c5 c6 : List Value) (va vb : Value) (lb lw : List Int) (wy : World) : Prop where
  row : ∀ g, rowOf rb wy = some g → g < wy.heap.size
  b5 : Blk wy t5 c5 60
  n5 : rowOf rb wy ≠ some t5
  b6 : Blk wy t6 c6 60
  n6 : rowOf rb wy ≠ some t6
  qa : QRow n1 wy va lb
  na : ∀ i, va.ownBlock = some i → rowOf rb wy ≠ some i
  qb : QRow n1 wy vb lw
  nb : ∀ i, vb.ownBlock = some i → rowOf rb wy ≠ some i
  lo : rb < n1
  l5 : rb < t5
  l6 : rb < t6
  top : n1 ≤ wy.heap.size
theorem ChSt.ck {rb n1 t5 t6 : Nat} {c5 c6 : List Value} {va vb : Value} {lb lw : List Int} {wy wz : World} (h : ChSt rb n1 t5 t6 c5 c6 va vb lb lw wy) (k : CK rb wy wz) (hz : wy.heap.size ≤ wz.heap.size) : ChSt rb n1 t5 t6 c5 c6 va vb lb lw wz := by
  have h5 := h.l5
  have h6 := h.l6
  have ht := h.top
  have e5 := k.blk h.b5 (by omega) h.n5
  have e6 := k.blk h.b6 (by omega) h.n6
  have ea := k.row h.qa h.lo h.na
  have eb := k.row h.qb h.lo h.nb
  exact ⟨k.1 h.row, e5.1, e5.2, e6.1, e6.2, ea.1, ea.2, eb.1, eb.2, h.lo, h5, h6, by omega⟩
theorem ChSt.below {rb n1 t5 t6 : Nat} {c5 c6 : List Value} {va vb : Value} {lb lw : List Int} {wy wz : World} (h : ChSt rb n1 t5 t6 c5 c6 va vb lb lw wy) (k : Below wy.heap.size wy wz) : ChSt rb n1 t5 t6 c5 c6 va vb lb lw wz :=
  h.ck (CK.below k (by have := h.lo; have := h.top; omega)) k.size
theorem QRow.one {base g : Nat} {w : World} {a : Int} (h : Blk w g [.int .i64 a] 3) (hb : base ≤ g) (ha : InI a) : QRow base w (.slice (some ⟨g, 0, none⟩) 1 1) [a] := by
  refine ⟨fun i => ?_, .inr ⟨g, 0, 1, #[.int .i64 a], rfl, hb, h, by simp, by unfold maxLen; omega, by simp, fun i hi => ?_⟩⟩
  · cases i with
    | zero => exact ha
    | succ i => simp [ix]
  · obtain rfl : i = 0 := by simp at hi; omega
    rfl
section
variable {B : Nat} {w w' : World}
theorem QRow.ownT {v : Value} {l : List Int} {row : Option Nat} (h : QRow B w v l) (hg : w.grownBy w' row) (hr : ∀ r, row = some r → ∃ o : Obj, w.heap[r]? = some o ∧ o.isCells = false) : QRow B w' v l := by
  rcases h.2 with ⟨rfl, rfl⟩ | ⟨g, off, cap, cur, rfl, hb, hc, r⟩
  · exact QRow.nil _ _
  · refine h.kept fun i _ hi e => hg.block i hi (fun e2 => ?_)
    simp only [Value.ownBlock, Option.some.injEq] at e
    subst e
    obtain ⟨o, ho, hf⟩ := hr g e2.symm
    rw [hc] at ho
    cases ho
    cases hf
theorem Blk.ownT {b : Nat} {c : List Value} {t : TypeId} {row : Option Nat} (h : Blk w b c t) (hg : w.grownBy w' row) (hr : ∀ r, row = some r → ∃ o : Obj, w.heap[r]? = some o ∧ o.isCells = false) : Blk w' b c t :=
  h.same (hg.block b h.lt (fun e2 => by
    obtain ⟨o, ho, hf⟩ := hr b e2.symm
    rw [show w.heap[b]? = _ from h] at ho
    cases ho
    cases hf))
theorem Mine.ownT {v : Value} {L : List RQ} {row : Option Nat} (h : Mine B v L w) (hg : w.grownBy w' row) (hr : ∀ r, row = some r → ∃ o : Obj, w.heap[r]? = some o ∧ o.isCells = false) : Mine B v L w' := by
  refine ⟨h.row.kept hg ?_, fun q hq => let ⟨h1, h2, h3, h4⟩ := h.each q hq; ⟨h1.ownT hg hr, h2.ownT hg hr, h3.ownT hg hr, h4⟩⟩
  rcases h.row.2 with ⟨e, _⟩ | ⟨g, cap, cur, e, _, hgg, _⟩
  · exact .inl (by rw [e]; rfl)
  · refine .inr (fun e2 => ?_)
    rw [e] at e2
    simp only [Value.ownBlock] at e2
    obtain ⟨o, ho, hf⟩ := hr g e2.symm
    rw [hgg] at ho
    cases ho
    cases hf
theorem RedR.ownT {q : RQ} {row : Option Nat} (h : RedR B q w) (hg : w.grownBy w' row) (hr : ∀ r, row = some r → ∃ o : Obj, w.heap[r]? = some o ∧ o.isCells = false) : RedR B q w' :=
  ⟨h.1, h.2.1.ownT hg hr, h.2.2.1.ownT hg hr, h.2.2.2.1.ownT hg hr, h.2.2.2.2⟩
theorem RedR.below {q : RQ} (h : RedR B q w) (hb : Below w.heap.size w w') : RedR B q w' :=
  ⟨h.1, h.2.1.below hb, h.2.2.1.below hb, h.2.2.2.1.below hb, h.2.2.2.2⟩
end
def RdI (rb B N : Nat) (w : World) (pre : List RQ) (W : World) : Prop :=
  ∃ a n c, Blk W rb [.slice a n c] 24 ∧ Mine B (.slice a n c) pre W ∧ Below N w W ∧ B ≤ W.heap.size
theorem RdI.own {rb B N Z : Nat} {w : World} (hN : N ≤ w.heap.size) (hZ : N ≤ Z) : OwnFrom Z (RdI rb B N w) := fun pre X Y row h hg hr => by
  obtain ⟨a, n, c, h1, h2, h3, h4⟩ := h
  have hr' := fun r e => (hr r e).2
  exact ⟨a, n, c, h1.ownT hg hr', h2.ownT hg hr', (ownFrom_below (β := Unit) hN hZ) () X Y row h3 hg hr, Nat.le_trans h4 hg.size⟩
structure El41 (w : World) (p : GP) (vn vs vr vm vS : Value) (m : List Int) (u1 u2 : Value) (x : XP) (xb : Nat) (v1 v2 : Value) (L : List WY) (R : List Int) (W : World) : Prop where
  st : E41 w p vn vs vr vm W
  bx : Blk W (w.heap.size + 1) [u1, u2] 30
  xis : ExplIs W (.agg #[u1, u2]) x
  set : Ints W vS m
  xbx : Blk W xb [v1, v2] 30
  whs : WhysIs W v1 L
  rst : Ints W v2 R
theorem El41.on {w W W' : World} {p : GP} {vn vs vr vm vS : Value} {m : List Int} {u1 u2 : Value} {x : XP} {xb : Nat} {v1 v2 : Value} {L : List WY} {R : List Int} (h : El41 w p vn vs vr vm vS m u1 u2 x xb v1 v2 L R W) (hb : Below W.heap.size W W') : El41 w p vn vs vr vm vS m u1 u2 x xb v1 v2 L R W' :=
  ⟨h.st.on hb, h.bx.below hb, h.xis.below hb, h.set.below hb, h.xbx.below hb, h.whs.below hb, h.rst.below hb⟩
theorem El41.xw {w W : World} {p : GP} {vn vs vr vm vS : Value} {m : List Int} {u1 u2 : Value} {x : XP} {xb : Nat} {v1 v2 : Value} {L : List WY} {R : List Int} (h : El41 w p vn vs vr vm vS m u1 u2 x xb v1 v2 L R W) : WhysIs W u1 x.whys := by
  obtain ⟨_, _, e, h1, _⟩ := h.xis
  simp only [Value.agg.injEq, Array.mk.injEq, List.cons.injEq, and_true] at e
  obtain ⟨rfl, rfl⟩ := e
  exact h1
theorem OwnL.nil (B : Nat) (w : World) : OwnL B w (.slice none 0 0) [] := ⟨⟨by simp, .inl ⟨rfl, rfl⟩⟩, fun i => by simp [ix], by simp⟩
theorem OwnL.mono {B B' : Nat} {w : World} {v : Value} {l : List Int} (h : OwnL B w v l) (hb : B' ≤ B) : OwnL B' w v l := by
  refine ⟨⟨h.1.1, ?_⟩, h.2⟩
  rcases h.1.2 with hn | ⟨g, cap, cur, rfl, hg, rest⟩
  · exact .inl hn
  · exact .inr ⟨g, cap, cur, rfl, Nat.le_trans hb hg, rest⟩
theorem in2_call {va vb : Value} {a b : List Int} {w : World} (h : inSub a b = true) (ha : Ints w va a) (hb : Ints w vb b) :
    Calls Tryz.prog 29 #[va, vb] w fun e w' => e = .returned (.bool true) ∧ w = w' := by
  have := in19_any va vb a b w ha hb
  rwa [h] at this
theorem QRow.setT {B : Nat} {W : World} {v : Value} {l : List Int} {b : Nat} {c : List Value} {T : TypeId} (h : QRow B W v l) (hb : Blk W b c T) (hT : T ≠ 3) (o : Nat) (u : Value) : QRow B (W.setCell ⟨b, o, none⟩ u) v l :=
  h.kept fun i _ _ e => Below.heap_setCell _ _ _ _ (fun e2 => h.far hb hT (by rw [e]; congr 1))
theorem RowR.setT {w0 W : World} {v : Value} {L : List RQ} {b : Nat} {c : List Value} {T : TypeId} (h : RowR w0 v L W) (hb : Blk W b c T) (hT : T ≠ 3) (hT2 : T ≠ 60) (o : Nat) (u : Value) : RowR w0 v L (W.setCell ⟨b, o, none⟩ u) := by
  refine h.same (fun i _ _ e => Below.heap_setCell _ _ _ _ (fun e2 => h.far hb hT2 (by rw [e]; congr 1))) fun q hq => ?_
  have hx : ∀ {v : Value} {l : List Int}, IntsX w0 W v l → IntsX w0 (W.setCell ⟨b, o, none⟩ u) v l := fun h => h.imp id fun h => ⟨h.1.setT hb hT o u, h.2⟩
  obtain ⟨h1, h2, h3, h4⟩ := h.each q hq
  exact ⟨hx h1, hx h2, hx h3, h4⟩
theorem SupR.in {p : GP} {x : XP} {a b : Int} (ha : a ∈ atomsY x.whys) (h : SupR p x a b) : b ∈ atomsY x.whys := by
  cases h with
  | base => exact ha
  | step hy hz _ _ _ => exact List.mem_map.2 ⟨_, hz, rfl⟩
theorem setQ_up {n : Int} {l : List Int} (h : l.Pairwise (· < ·)) (hr : ∀ x ∈ l, 1 ≤ x ∧ x ≤ n) : setQ n l = true := by
  unfold setQ
  refine allR_true fun i hi => ?_
  have h1 := hr _ (ix_mem hi)
  unfold setTo
  rw [decide_eq_true h1, Bool.true_and]
  by_cases e : i = 0
  · subst e; rfl
  · have := List.pairwise_iff_getElem.1 h (i - 1) i (by omega) hi (by omega)
    rw [← ix19 (show i - 1 < l.length by omega), ← ix19 hi] at this
    rw [decide_eq_true this, Bool.or_true]
def Sv1Rel (w : World) (p : GP) (vn vs vr vm : Value) (i : Value) (W : World) : Prop := ∃ j : Nat, j ≤ p.rules.length ∧ i = .int .i64 j ∧ (∀ k, k < j → (ixR p.rules k).sum = false) ∧ E41 w p vn vs vr vm W
def Sv2Rel (p : GP) (vn vs vm : Value) (S : List Int) (L : List WY) (W0 : World) (i : Value) (W : World) : Prop :=
  ∃ (j : Nat) (vq : Value) (Lq : List RQ), j ≤ L.length ∧ i = .int .i64 j ∧ Blk W W0.heap.size [.int .i64 p.n, vn, vs, vq, vm] 27 ∧ RowR W0 vq Lq W ∧ Lq.map (·.1) = supRs p S (L.take j) ∧ Below W0.heap.size W0 W
def Sv3Rel (L2 : List WY) (a : Int) (W0 : World) (i : Value) (W : World) : Prop := ∃ j : Nat, j ≤ L2.length ∧ i = .int .i64 j ∧ (∀ k, k < j → (ixY L2 k).atom ≠ a) ∧ Below W0.heap.size W0 W
theorem supRs_take {p : GP} {S : List Int} {L : List WY} {j : Nat} (hj : j < L.length) : supRs p S (L.take (j + 1)) = supRs p S (L.take j) ++ if (ixY L j).atom ∈ S then [chR (ixR p.rules (ixY L j).rule.toNat)] else [] := by
  unfold supRs supF
  rw [List.take_succ_eq_append_getElem hj, List.filter_append, List.map_append, ← ixY_get hj]
  by_cases h : (ixY L j).atom ∈ S
  · simp [h]
  · simp [h]
structure SupS (p : GP) (x : XP) (m : List Int) (a : Int) (S : List Int) : Prop where
  set : setQ p.n S = true
  has : a ∈ S
  each : ∀ y ∈ x.whys, y.atom ∈ S → ∀ T : List Int, (∀ b, b ∈ T ↔ SupR p x y.atom b) → inSub T S = true
  low : ∀ w ∈ x.whys, w.atom = a → ∀ y ∈ x.whys, y.atom ∈ S → y.atom = a ∨ y.level < w.level
  down : ∀ y ∈ x.whys, y.atom ∈ S → ∀ z ∈ x.whys, z.atom ∈ (ixR p.rules y.rule.toNat).body → z.level < y.level → z.atom ∈ S
theorem supS_of {p : GP} {x : XP} {m : List Int} {a : Int} {S : List Int} (hm : setQ p.n m = true) (h : ValX p m x) (ha : a ∈ atomsY x.whys) (hs : S.Pairwise (· < ·)) (hS : ∀ b, b ∈ S ↔ SupR p x a b) : SupS p x m a S where
  set := setQ_up hs fun b hb => setQ_rng hm ((h.part b).2 (.inr (((hS b).1 hb).in ha)))
  has := (hS a).2 .base
  each := fun _ _ hyS _ hT => inSub_iff.2 fun b hb => (hS b).2 (((hS _).1 hyS).trans ((hT b).1 hb))
  low := fun _ hw hwa _ hy hyS => ((hS _).1 hyS).low h.nod hw hwa hy rfl
  down := fun _ hy hyS _ hz hb hl => (hS _).2 (.step hy hz ((hS _).1 hyS) hb hl)
theorem chk_parts {p : GP} {m : List Int} {x : XP} (h : chkX p m x = true) : allR x.whys.length (fun i => rngY p (ixY x.whys i)) = true ∧ (x.rest ++ atomsY x.whys).Perm m ∧ allR (x.whys.length - 1) (fun i => ordY (ixY x.whys i) (ixY x.whys (i + 1))) = true := by
  unfold chkX at h
  simp only [Bool.and_eq_true, decide_eq_true_eq] at h
  exact ⟨h.1, h.2.1, h.2.2.2.1⟩
theorem chk_len {p : GP} {m : List Int} {x : XP} (h : chkX p m x = true) : x.rest.length + x.whys.length = m.length := by
  have := (chk_parts h).2.1.length_eq
  simpa [atomsY] using this
end Go.Proofs.YtfajkmmmmmfhiaaGreatDoor
