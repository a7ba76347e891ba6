/- My texts CpA, CpB, App, CpC, Lv4, Lv5, Lv9, Mk0, Rea1, Lp8R, merged. -/
import Derived.Test.YtfhpfbakoiekpaaGreatDoorM12
import Derived.Test.YtfhpfbakoiekpaaGreatDoorM09
import Derived.Test.YtfhpfbakoiekpaaGreatDoorM04
import Derived.Deep.AppendSrc
import Derived.Test.YtfhpfbakoiekpaaGreatDoorM05
import Derived.Deep.DeepMust
import Derived.Test.YtfhpfbakoiekpaaGreatDoorM06
import Derived.Test.YtfhpfbakoiekpaaGreatDoorM08
import Derived.Shelf.Abstract
import Derived.Laws.EntriesVeiled

/- complete.Completion: what holds when some of the operations of a drawn region have come up (printed by gen/r2.py). -/
namespace Go.Proofs.YtfhpfbakoiekpaaGreatDoor
open Go.RowKit

/-- w: the world ahead of the statement; fv: put; rb: the rule. -/
structure RA (w : World) (fv : Value) (rb : Nat) (v1 v2 : Value) (la lb : List Int) (b bd rest x y : Int) (vals : Nat → Value) (L : Nat → Bool) (wx : World) : Prop where
  below : Below w.heap.size w wx
  t0 : L 0 = true → vals 0 = fv
  t1 : L 1 = true → vals 1 = .pointer (some ⟨rb, 4, none⟩)
  t2 : L 2 = true → vals 2 = v1
  t4 : L 4 = true → vals 4 = .int .i64 b
  t5 : L 5 = true → vals 5 = .int .i64 x
  t8 : L 8 = true → vals 8 = .pointer (some ⟨rb, 5, none⟩)
  t9 : L 9 = true → vals 9 = v2
  t11 : L 11 = true → vals 11 = .pointer (some ⟨rb, 3, none⟩)
  t12 : L 12 = true → vals 12 = .int .i64 bd
  t15 : L 15 = true → vals 15 = .pointer (some ⟨rb, 3, none⟩)
  t16 : L 16 = true → vals 16 = .int .i64 bd
  ra : L 3 = true → QRow w.heap.size wx (if L 7 then vals 7 else vals 3) (if L 7 then la ++ [x] else la)
  rb : L 10 = true → QRow w.heap.size wx (if L 14 then vals 14 else vals 10) (if L 14 then lb ++ [y] else lb)
  far : L 3 = true → L 10 = true → Far (if L 7 then vals 7 else vals 3) (if L 14 then vals 14 else vals 10)
  sa : L 6 = true → L 7 = false → ∃ g, vals 6 = .slice (some ⟨g, 0, none⟩) 1 1 ∧ Blk wx g [.int .i64 x] 3
  sb : L 13 = true → L 14 = false → ∃ g, vals 13 = .slice (some ⟨g, 0, none⟩) 1 1 ∧ Blk wx g [.int .i64 y] 3 ∧ (L 3 = true → (if L 7 then vals 7 else vals 3).ownBlock ≠ some g)

section
variable {w : World} {fv : Value} {rb : Nat} {v1 v2 : Value} {la lb : List Int} {b bd rest x y : Int} {vals : Nat → Value} {L : Nat → Bool} {wx w' : World} {v : Value}

theorem RA.start : RA w fv rb v1 v2 la lb b bd rest x y (fun _ => undef) (fun _ => false) w.drew := by
  constructor <;> first | exact (Below.refl _ _).drew | (intro h; cases h)

def RA.val (fv : Value) (rb : Nat) (v1 v2 : Value) (b bd _rest x _y : Int) : Nat → Value
  | 0 => fv
  | 1 => .pointer (some ⟨rb, 4, none⟩)
  | 2 => v1
  | 4 => .int .i64 b
  | 5 => .int .i64 x
  | 8 => .pointer (some ⟨rb, 5, none⟩)
  | 9 => v2
  | 11 => .pointer (some ⟨rb, 3, none⟩)
  | 12 => .int .i64 bd
  | 15 => .pointer (some ⟨rb, 3, none⟩)
  | 16 => .int .i64 bd
  | _ => undef

theorem RA.quiet (h : RA w fv rb v1 v2 la lb b bd rest x y vals L wx) (i : Nat) (hi : i = 0 ∨ i = 1 ∨ i = 2 ∨ i = 4 ∨ i = 5 ∨ i = 8 ∨ i = 9 ∨ i = 11 ∨ i = 12 ∨ i = 15 ∨ i = 16) : RA w fv rb v1 v2 la lb b bd rest x y (updN vals i (RA.val fv rb v1 v2 b bd rest x y i)) (updN L i true) wx := by
  obtain ⟨h0, t0, t1, t2, t4, t5, t8, t9, t11, t12, t15, t16, ra, rbb, far, sa, sb⟩ := h
  rcases hi with rfl | rfl | rfl | rfl | rfl | rfl | rfl | rfl | rfl | rfl | rfl <;> constructor <;> first | (simp [updN, RA.val]; done) | simpa [updN] using h0 | simpa [updN] using t0 | simpa [updN] using t1 | simpa [updN] using t2 | simpa [updN] using t4 | simpa [updN] using t5 | simpa [updN] using t8 | simpa [updN] using t9 | simpa [updN] using t11 | simpa [updN] using t12 | simpa [updN] using t15 | simpa [updN] using t16 | simpa [updN] using ra | simpa [updN] using rbb | simpa [updN] using far | simpa [updN] using sa | simpa [updN] using sb

theorem RA.callA (h : RA w fv rb v1 v2 la lb b bd rest x y vals L wx) (_hA : L 3 = false) (hAA : L 7 = false) (hB : L 10 = false) (_hBB : L 14 = false) (hb : Below wx.heap.size wx w') (hq : QRow wx.heap.size w' v la) : RA w fv rb v1 v2 la lb b bd rest x y (updN vals 3 v) (updN L 3 true) w' := by
  have hs := h.below.size
  constructor
  · exact bon h.below hb
  · simpa [updN] using h.t0
  · simpa [updN] using h.t1
  · simpa [updN] using h.t2
  · simpa [updN] using h.t4
  · simpa [updN] using h.t5
  · simpa [updN] using h.t8
  · simpa [updN] using h.t9
  · simpa [updN] using h.t11
  · simpa [updN] using h.t12
  · simpa [updN] using h.t15
  · simpa [updN] using h.t16
  · intro _; simpa [updN, hAA] using hq.mono hs
  · intro e; simp [updN, hB] at e
  · intro _ e; simp [updN, hB] at e
  · intro e1 e2; simp only [updN, Nat.reduceEqDiff, if_false] at e1 e2; obtain ⟨g, e, k⟩ := h.sa e1 e2; exact ⟨g, by simpa [updN] using e, k.below hb⟩
  · intro e1 e2; simp only [updN, Nat.reduceEqDiff, if_false] at e1 e2; obtain ⟨g, e, k, -⟩ := h.sb e1 e2; refine ⟨g, by simpa [updN] using e, k.below hb, fun _ e3 => ?_⟩; simp only [updN, Nat.reduceEqDiff, if_true, if_false, hAA] at e3; have := (hq.base e3).1; have := k.lt; omega

theorem RA.buildA (h : RA w fv rb v1 v2 la lb b bd rest x y vals L wx) (_hAA : L 7 = false) : RA w fv rb v1 v2 la lb b bd rest x y (updN vals 6 (.slice (some ⟨wx.heap.size, 0, none⟩) 1 1)) (updN L 6 true) (wx.alloc (.cells #[.int .i64 x] 3)) := by
  have hb := bal (Below.refl wx.heap.size wx) (.cells #[.int .i64 x] 3)
  constructor
  · exact bon h.below hb
  · simpa [updN] using h.t0
  · simpa [updN] using h.t1
  · simpa [updN] using h.t2
  · simpa [updN] using h.t4
  · simpa [updN] using h.t5
  · simpa [updN] using h.t8
  · simpa [updN] using h.t9
  · simpa [updN] using h.t11
  · simpa [updN] using h.t12
  · simpa [updN] using h.t15
  · simpa [updN] using h.t16
  · intro e; simpa [updN] using (h.ra (by simpa [updN] using e)).below hb
  · intro e; simpa [updN] using (h.rb (by simpa [updN] using e)).below hb
  · simpa [updN] using h.far
  · intro _ _; exact ⟨_, by simp [updN], Blk.new wx [.int .i64 x] _⟩
  · intro e1 e2; simp only [updN, Nat.reduceEqDiff, if_false] at e1 e2; obtain ⟨g, e, k, k2⟩ := h.sb e1 e2; exact ⟨g, by simpa [updN] using e, k.below hb, by simpa [updN] using k2⟩

theorem RA.appA (h : RA w fv rb v1 v2 la lb b bd rest x y vals L wx) (hA : L 3 = true) (hAA : L 7 = false) (hB : L 10 = false) (_hBB : L 14 = false) (hq : QRow w.heap.size w' v (la ++ [x])) (hg : wx.grownBy w' (vals 3).ownBlock) (ho : v.ownBlock = (vals 3).ownBlock ∨ v.ownBlock = some wx.heap.size) : RA w fv rb v1 v2 la lb b bd rest x y (updN vals 7 v) (updN L 7 true) w' := by
  have hra := h.ra hA
  simp only [hAA, Bool.false_eq_true, if_false] at hra
  have hbase := fun g e => hra.base (g := g) e
  constructor
  · exact h.below.trans (below_row hg h.below.size fun g e => (hbase g e).1)
  · simpa [updN] using h.t0
  · simpa [updN] using h.t1
  · simpa [updN] using h.t2
  · simpa [updN] using h.t4
  · simpa [updN] using h.t5
  · simpa [updN] using h.t8
  · simpa [updN] using h.t9
  · simpa [updN] using h.t11
  · simpa [updN] using h.t12
  · simpa [updN] using h.t15
  · simpa [updN] using h.t16
  · intro _; simpa [updN] using hq
  · intro e; simp [updN, hB] at e
  · intro _ e; simp [updN, hB] at e
  · intro _ e; simp [updN] at e
  · intro e1 e2; simp only [updN, Nat.reduceEqDiff, if_false] at e1 e2; obtain ⟨g, e, k, k2⟩ := h.sb e1 e2; have k3 := k2 hA; simp only [hAA, Bool.false_eq_true, if_false] at k3; refine ⟨g, by simpa [updN] using e, k.same (hg.block g k.lt fun e3 => k3 e3.symm), fun _ e3 => ?_⟩; simp only [updN, if_true] at e3; rcases ho with ho | ho; (rw [ho] at e3; exact k3 e3); (rw [ho] at e3; have := k.lt; have := Option.some.inj e3; omega)

theorem RA.callB (h : RA w fv rb v1 v2 la lb b bd rest x y vals L wx) (hA : L 3 = true) (hAA : L 7 = true) (_hB : L 10 = false) (hBB : L 14 = false) (hb : Below wx.heap.size wx w') (hq : QRow wx.heap.size w' v lb) : RA w fv rb v1 v2 la lb b bd rest x y (updN vals 10 v) (updN L 10 true) w' := by
  have hra := h.ra hA
  have hs := h.below.size
  simp only [hAA, if_true] at hra
  constructor
  · exact bon h.below hb
  · simpa [updN] using h.t0
  · simpa [updN] using h.t1
  · simpa [updN] using h.t2
  · simpa [updN] using h.t4
  · simpa [updN] using h.t5
  · simpa [updN] using h.t8
  · simpa [updN] using h.t9
  · simpa [updN] using h.t11
  · simpa [updN] using h.t12
  · simpa [updN] using h.t15
  · simpa [updN] using h.t16
  · intro _; simpa [updN, hAA] using hra.below hb
  · intro _; simpa [updN, hBB] using hq.mono hs
  · intro _ _ g e1 e2; simp only [updN, Nat.reduceEqDiff, if_true, if_false, hAA, hBB, Bool.false_eq_true] at e1 e2; have := (hra.base e1).2; have := (hq.base e2).1; omega
  · intro e1 e2; simp [updN, hAA] at e2
  · intro e1 e2; simp only [updN, Nat.reduceEqDiff, if_false] at e1 e2; obtain ⟨g, e, k, k2⟩ := h.sb e1 e2; exact ⟨g, by simpa [updN] using e, k.below hb, by simpa [updN] using k2⟩

theorem RA.buildB (h : RA w fv rb v1 v2 la lb b bd rest x y vals L wx) (_hBB : L 14 = false) : RA w fv rb v1 v2 la lb b bd rest x y (updN vals 13 (.slice (some ⟨wx.heap.size, 0, none⟩) 1 1)) (updN L 13 true) (wx.alloc (.cells #[.int .i64 y] 3)) := by
  have hb := bal (Below.refl wx.heap.size wx) (.cells #[.int .i64 y] 3)
  constructor
  · exact bon h.below hb
  · simpa [updN] using h.t0
  · simpa [updN] using h.t1
  · simpa [updN] using h.t2
  · simpa [updN] using h.t4
  · simpa [updN] using h.t5
  · simpa [updN] using h.t8
  · simpa [updN] using h.t9
  · simpa [updN] using h.t11
  · simpa [updN] using h.t12
  · simpa [updN] using h.t15
  · simpa [updN] using h.t16
  · intro e; simpa [updN] using (h.ra (by simpa [updN] using e)).below hb
  · intro e; simpa [updN] using (h.rb (by simpa [updN] using e)).below hb
  · simpa [updN] using h.far
  · intro e1 e2; simp only [updN, Nat.reduceEqDiff, if_false] at e1 e2; obtain ⟨g, e, k⟩ := h.sa e1 e2; exact ⟨g, by simpa [updN] using e, k.below hb⟩
  · intro _ _; refine ⟨_, by simp [updN], Blk.new wx [.int .i64 y] _, fun e e2 => ?_⟩; have e3 : L 3 = true := (by simpa [updN] using e); have hr := h.ra e3; have e4 : (if L 7 then vals 7 else vals 3).ownBlock = some wx.heap.size := (by simpa [updN] using e2); have := (hr.base e4).2; omega

theorem RA.appB (h : RA w fv rb v1 v2 la lb b bd rest x y vals L wx) (hA : L 3 = true) (hAA : L 7 = true) (hB : L 10 = true) (hBB : L 14 = false) (hq : QRow w.heap.size w' v (lb ++ [y])) (hg : wx.grownBy w' (vals 10).ownBlock) (ho : v.ownBlock = (vals 10).ownBlock ∨ v.ownBlock = some wx.heap.size) : RA w fv rb v1 v2 la lb b bd rest x y (updN vals 14 v) (updN L 14 true) w' := by
  have hra := h.ra hA
  have hrb := h.rb hB
  have hf := h.far hA hB
  simp only [hAA, hBB, Bool.false_eq_true, if_true, if_false] at hra hrb hf
  have hbase := fun g e => hrb.base (g := g) e
  constructor
  · exact h.below.trans (below_row hg h.below.size fun g e => (hbase g e).1)
  · simpa [updN] using h.t0
  · simpa [updN] using h.t1
  · simpa [updN] using h.t2
  · simpa [updN] using h.t4
  · simpa [updN] using h.t5
  · simpa [updN] using h.t8
  · simpa [updN] using h.t9
  · simpa [updN] using h.t11
  · simpa [updN] using h.t12
  · simpa [updN] using h.t15
  · simpa [updN] using h.t16
  · intro _; have := hra.kept (w' := w') (fun i _ hi hv => hg.block i hi fun e => hf i hv e.symm); simpa [updN, hAA] using this
  · intro _; simpa [updN] using hq
  · intro _ _ g e1 e2; simp only [updN, Nat.reduceEqDiff, if_true, if_false, hAA] at e1 e2; rcases ho with ho | ho; (rw [ho] at e2; exact hf g e1 e2); (rw [ho] at e2; have := (hra.base e1).2; have := Option.some.inj e2; omega)
  · intro _ e; simp [updN, hAA] at e
  · intro _ e; simp [updN] at e

/-- The same, with the last call. -/
def RA.J (w : World) (fv : Value) (rb : Nat) (v1 v2 : Value) (la lb : List Int) (b bd rest x y : Int) (Fin : World → Prop) (vals : Nat → Value) (L : Nat → Bool) (wx : World) : Prop := if L 17 then Fin wx else RA w fv rb v1 v2 la lb b bd rest x y vals L wx

variable {Fin : World → Prop} {i : Nat}
theorem RA.start0 : RA.J w fv rb v1 v2 la lb b bd rest x y Fin (fun _ => undef) (fun _ => false) w.drew := RA.start
theorem RA.J.out (hz : L 17 = false) (h : RA.J w fv rb v1 v2 la lb b bd rest x y Fin vals L wx) : RA w fv rb v1 v2 la lb b bd rest x y vals L wx := by unfold RA.J at h; rw [hz] at h; exact h
theorem RA.J.on (hz : L 17 = false) (hi : i ≠ 17) (h : RA w fv rb v1 v2 la lb b bd rest x y (updN vals i v) (updN L i true) wx) : RA.J w fv rb v1 v2 la lb b bd rest x y Fin (updN vals i v) (updN L i true) wx := by
  have e : updN L i true 17 = false := by simp only [updN]; rw [if_neg (Ne.symm hi)]; exact hz
  unfold RA.J; rw [e]; exact h
theorem RA.J.end (h : Fin wx) : RA.J w fv rb v1 v2 la lb b bd rest x y Fin (updN vals 17 v) (updN L 17 true) wx := by
  have e : updN L 17 true 17 = true := by simp [updN]
  unfold RA.J; rw [e]; exact h
theorem RA.J.fin (hz : L 17 = true) (h : RA.J w fv rb v1 v2 la lb b bd rest x y Fin vals L wx) : Fin wx := by unfold RA.J at h; rw [hz] at h; exact h
end

end Go.Proofs.YtfhpfbakoiekpaaGreatDoor

/- complete.Completion: what holds when some of the operations of a drawn region have come up (printed by gen/r2.py). -/
namespace Go.Proofs.YtfhpfbakoiekpaaGreatDoor
open Go.RowKit

/-- w: the world ahead of the statement; fv: put; rb: the rule. -/
structure RB (w : World) (fv : Value) (rb : Nat) (v1 v2 : Value) (la lb : List Int) (b bd rest x y : Int) (vals : Nat → Value) (L : Nat → Bool) (wx : World) : Prop where
  below : Below w.heap.size w wx
  t0 : L 0 = true → vals 0 = fv
  t1 : L 1 = true → vals 1 = .pointer (some ⟨rb, 4, none⟩)
  t2 : L 2 = true → vals 2 = v1
  t4 : L 4 = true → vals 4 = .int .i64 b
  t7 : L 7 = true → vals 7 = .pointer (some ⟨rb, 5, none⟩)
  t8 : L 8 = true → vals 8 = v2
  t10 : L 10 = true → vals 10 = .int .i64 rest
  t11 : L 11 = true → vals 11 = .int .i64 y
  t14 : L 14 = true → vals 14 = .int .i64 rest
  ra : L 3 = true → QRow w.heap.size wx (if L 6 then vals 6 else vals 3) (if L 6 then la ++ [x] else la)
  rb : L 9 = true → QRow w.heap.size wx (if L 13 then vals 13 else vals 9) (if L 13 then lb ++ [y] else lb)
  far : L 3 = true → L 9 = true → Far (if L 6 then vals 6 else vals 3) (if L 13 then vals 13 else vals 9)
  sa : L 5 = true → L 6 = false → ∃ g, vals 5 = .slice (some ⟨g, 0, none⟩) 1 1 ∧ Blk wx g [.int .i64 x] 3
  sb : L 12 = true → L 13 = false → ∃ g, vals 12 = .slice (some ⟨g, 0, none⟩) 1 1 ∧ Blk wx g [.int .i64 y] 3 ∧ (L 3 = true → (if L 6 then vals 6 else vals 3).ownBlock ≠ some g)

section
variable {w : World} {fv : Value} {rb : Nat} {v1 v2 : Value} {la lb : List Int} {b bd rest x y : Int} {vals : Nat → Value} {L : Nat → Bool} {wx w' : World} {v : Value}

theorem RB.start : RB w fv rb v1 v2 la lb b bd rest x y (fun _ => undef) (fun _ => false) w.drew := by
  constructor <;> first | exact (Below.refl _ _).drew | (intro h; cases h)

def RB.val (fv : Value) (rb : Nat) (v1 v2 : Value) (b _bd rest _x y : Int) : Nat → Value
  | 0 => fv
  | 1 => .pointer (some ⟨rb, 4, none⟩)
  | 2 => v1
  | 4 => .int .i64 b
  | 7 => .pointer (some ⟨rb, 5, none⟩)
  | 8 => v2
  | 10 => .int .i64 rest
  | 11 => .int .i64 y
  | 14 => .int .i64 rest
  | _ => undef

theorem RB.quiet (h : RB w fv rb v1 v2 la lb b bd rest x y vals L wx) (i : Nat) (hi : i = 0 ∨ i = 1 ∨ i = 2 ∨ i = 4 ∨ i = 7 ∨ i = 8 ∨ i = 10 ∨ i = 11 ∨ i = 14) : RB w fv rb v1 v2 la lb b bd rest x y (updN vals i (RB.val fv rb v1 v2 b bd rest x y i)) (updN L i true) wx := by
  obtain ⟨h0, t0, t1, t2, t4, t7, t8, t10, t11, t14, ra, rbb, far, sa, sb⟩ := h
  rcases hi with rfl | rfl | rfl | rfl | rfl | rfl | rfl | rfl | rfl <;> constructor <;> first | (simp [updN, RB.val]; done) | simpa [updN] using h0 | simpa [updN] using t0 | simpa [updN] using t1 | simpa [updN] using t2 | simpa [updN] using t4 | simpa [updN] using t7 | simpa [updN] using t8 | simpa [updN] using t10 | simpa [updN] using t11 | simpa [updN] using t14 | simpa [updN] using ra | simpa [updN] using rbb | simpa [updN] using far | simpa [updN] using sa | simpa [updN] using sb

theorem RB.callA (h : RB w fv rb v1 v2 la lb b bd rest x y vals L wx) (_hA : L 3 = false) (hAA : L 6 = false) (hB : L 9 = false) (_hBB : L 13 = false) (hb : Below wx.heap.size wx w') (hq : QRow wx.heap.size w' v la) : RB w fv rb v1 v2 la lb b bd rest x y (updN vals 3 v) (updN L 3 true) w' := by
  have hs := h.below.size
  constructor
  · exact bon h.below hb
  · simpa [updN] using h.t0
  · simpa [updN] using h.t1
  · simpa [updN] using h.t2
  · simpa [updN] using h.t4
  · simpa [updN] using h.t7
  · simpa [updN] using h.t8
  · simpa [updN] using h.t10
  · simpa [updN] using h.t11
  · simpa [updN] using h.t14
  · intro _; simpa [updN, hAA] using hq.mono hs
  · intro e; simp [updN, hB] at e
  · intro _ e; simp [updN, hB] at e
  · intro e1 e2; simp only [updN, Nat.reduceEqDiff, if_false] at e1 e2; obtain ⟨g, e, k⟩ := h.sa e1 e2; exact ⟨g, by simpa [updN] using e, k.below hb⟩
  · intro e1 e2; simp only [updN, Nat.reduceEqDiff, if_false] at e1 e2; obtain ⟨g, e, k, -⟩ := h.sb e1 e2; refine ⟨g, by simpa [updN] using e, k.below hb, fun _ e3 => ?_⟩; simp only [updN, Nat.reduceEqDiff, if_true, if_false, hAA] at e3; have := (hq.base e3).1; have := k.lt; omega

theorem RB.buildA (h : RB w fv rb v1 v2 la lb b bd rest x y vals L wx) (_hAA : L 6 = false) : RB w fv rb v1 v2 la lb b bd rest x y (updN vals 5 (.slice (some ⟨wx.heap.size, 0, none⟩) 1 1)) (updN L 5 true) (wx.alloc (.cells #[.int .i64 x] 3)) := by
  have hb := bal (Below.refl wx.heap.size wx) (.cells #[.int .i64 x] 3)
  constructor
  · exact bon h.below hb
  · simpa [updN] using h.t0
  · simpa [updN] using h.t1
  · simpa [updN] using h.t2
  · simpa [updN] using h.t4
  · simpa [updN] using h.t7
  · simpa [updN] using h.t8
  · simpa [updN] using h.t10
  · simpa [updN] using h.t11
  · simpa [updN] using h.t14
  · intro e; simpa [updN] using (h.ra (by simpa [updN] using e)).below hb
  · intro e; simpa [updN] using (h.rb (by simpa [updN] using e)).below hb
  · simpa [updN] using h.far
  · intro _ _; exact ⟨_, by simp [updN], Blk.new wx [.int .i64 x] _⟩
  · intro e1 e2; simp only [updN, Nat.reduceEqDiff, if_false] at e1 e2; obtain ⟨g, e, k, k2⟩ := h.sb e1 e2; exact ⟨g, by simpa [updN] using e, k.below hb, by simpa [updN] using k2⟩

theorem RB.appA (h : RB w fv rb v1 v2 la lb b bd rest x y vals L wx) (hA : L 3 = true) (hAA : L 6 = false) (hB : L 9 = false) (_hBB : L 13 = false) (hq : QRow w.heap.size w' v (la ++ [x])) (hg : wx.grownBy w' (vals 3).ownBlock) (ho : v.ownBlock = (vals 3).ownBlock ∨ v.ownBlock = some wx.heap.size) : RB w fv rb v1 v2 la lb b bd rest x y (updN vals 6 v) (updN L 6 true) w' := by
  have hra := h.ra hA
  simp only [hAA, Bool.false_eq_true, if_false] at hra
  have hbase := fun g e => hra.base (g := g) e
  constructor
  · exact h.below.trans (below_row hg h.below.size fun g e => (hbase g e).1)
  · simpa [updN] using h.t0
  · simpa [updN] using h.t1
  · simpa [updN] using h.t2
  · simpa [updN] using h.t4
  · simpa [updN] using h.t7
  · simpa [updN] using h.t8
  · simpa [updN] using h.t10
  · simpa [updN] using h.t11
  · simpa [updN] using h.t14
  · intro _; simpa [updN] using hq
  · intro e; simp [updN, hB] at e
  · intro _ e; simp [updN, hB] at e
  · intro _ e; simp [updN] at e
  · intro e1 e2; simp only [updN, Nat.reduceEqDiff, if_false] at e1 e2; obtain ⟨g, e, k, k2⟩ := h.sb e1 e2; have k3 := k2 hA; simp only [hAA, Bool.false_eq_true, if_false] at k3; refine ⟨g, by simpa [updN] using e, k.same (hg.block g k.lt fun e3 => k3 e3.symm), fun _ e3 => ?_⟩; simp only [updN, if_true] at e3; rcases ho with ho | ho; (rw [ho] at e3; exact k3 e3); (rw [ho] at e3; have := k.lt; have := Option.some.inj e3; omega)

theorem RB.callB (h : RB w fv rb v1 v2 la lb b bd rest x y vals L wx) (hA : L 3 = true) (hAA : L 6 = true) (_hB : L 9 = false) (hBB : L 13 = false) (hb : Below wx.heap.size wx w') (hq : QRow wx.heap.size w' v lb) : RB w fv rb v1 v2 la lb b bd rest x y (updN vals 9 v) (updN L 9 true) w' := by
  have hra := h.ra hA
  have hs := h.below.size
  simp only [hAA, if_true] at hra
  constructor
  · exact bon h.below hb
  · simpa [updN] using h.t0
  · simpa [updN] using h.t1
  · simpa [updN] using h.t2
  · simpa [updN] using h.t4
  · simpa [updN] using h.t7
  · simpa [updN] using h.t8
  · simpa [updN] using h.t10
  · simpa [updN] using h.t11
  · simpa [updN] using h.t14
  · intro _; simpa [updN, hAA] using hra.below hb
  · intro _; simpa [updN, hBB] using hq.mono hs
  · intro _ _ g e1 e2; simp only [updN, Nat.reduceEqDiff, if_true, if_false, hAA, hBB, Bool.false_eq_true] at e1 e2; have := (hra.base e1).2; have := (hq.base e2).1; omega
  · intro e1 e2; simp [updN, hAA] at e2
  · intro e1 e2; simp only [updN, Nat.reduceEqDiff, if_false] at e1 e2; obtain ⟨g, e, k, k2⟩ := h.sb e1 e2; exact ⟨g, by simpa [updN] using e, k.below hb, by simpa [updN] using k2⟩

theorem RB.buildB (h : RB w fv rb v1 v2 la lb b bd rest x y vals L wx) (_hBB : L 13 = false) : RB w fv rb v1 v2 la lb b bd rest x y (updN vals 12 (.slice (some ⟨wx.heap.size, 0, none⟩) 1 1)) (updN L 12 true) (wx.alloc (.cells #[.int .i64 y] 3)) := by
  have hb := bal (Below.refl wx.heap.size wx) (.cells #[.int .i64 y] 3)
  constructor
  · exact bon h.below hb
  · simpa [updN] using h.t0
  · simpa [updN] using h.t1
  · simpa [updN] using h.t2
  · simpa [updN] using h.t4
  · simpa [updN] using h.t7
  · simpa [updN] using h.t8
  · simpa [updN] using h.t10
  · simpa [updN] using h.t11
  · simpa [updN] using h.t14
  · intro e; simpa [updN] using (h.ra (by simpa [updN] using e)).below hb
  · intro e; simpa [updN] using (h.rb (by simpa [updN] using e)).below hb
  · simpa [updN] using h.far
  · intro e1 e2; simp only [updN, Nat.reduceEqDiff, if_false] at e1 e2; obtain ⟨g, e, k⟩ := h.sa e1 e2; exact ⟨g, by simpa [updN] using e, k.below hb⟩
  · intro _ _; refine ⟨_, by simp [updN], Blk.new wx [.int .i64 y] _, fun e e2 => ?_⟩; have e3 : L 3 = true := (by simpa [updN] using e); have hr := h.ra e3; have e4 : (if L 6 then vals 6 else vals 3).ownBlock = some wx.heap.size := (by simpa [updN] using e2); have := (hr.base e4).2; omega

theorem RB.appB (h : RB w fv rb v1 v2 la lb b bd rest x y vals L wx) (hA : L 3 = true) (hAA : L 6 = true) (hB : L 9 = true) (hBB : L 13 = false) (hq : QRow w.heap.size w' v (lb ++ [y])) (hg : wx.grownBy w' (vals 9).ownBlock) (ho : v.ownBlock = (vals 9).ownBlock ∨ v.ownBlock = some wx.heap.size) : RB w fv rb v1 v2 la lb b bd rest x y (updN vals 13 v) (updN L 13 true) w' := by
  have hra := h.ra hA
  have hrb := h.rb hB
  have hf := h.far hA hB
  simp only [hAA, hBB, Bool.false_eq_true, if_true, if_false] at hra hrb hf
  have hbase := fun g e => hrb.base (g := g) e
  constructor
  · exact h.below.trans (below_row hg h.below.size fun g e => (hbase g e).1)
  · simpa [updN] using h.t0
  · simpa [updN] using h.t1
  · simpa [updN] using h.t2
  · simpa [updN] using h.t4
  · simpa [updN] using h.t7
  · simpa [updN] using h.t8
  · simpa [updN] using h.t10
  · simpa [updN] using h.t11
  · simpa [updN] using h.t14
  · intro _; have := hra.kept (w' := w') (fun i _ hi hv => hg.block i hi fun e => hf i hv e.symm); simpa [updN, hAA] using this
  · intro _; simpa [updN] using hq
  · intro _ _ g e1 e2; simp only [updN, Nat.reduceEqDiff, if_true, if_false, hAA] at e1 e2; rcases ho with ho | ho; (rw [ho] at e2; exact hf g e1 e2); (rw [ho] at e2; have := (hra.base e1).2; have := Option.some.inj e2; omega)
  · intro _ e; simp [updN, hAA] at e
  · intro _ e; simp [updN] at e

/-- The same, with the last call. -/
def RB.J (w : World) (fv : Value) (rb : Nat) (v1 v2 : Value) (la lb : List Int) (b bd rest x y : Int) (Fin : World → Prop) (vals : Nat → Value) (L : Nat → Bool) (wx : World) : Prop := if L 15 then Fin wx else RB w fv rb v1 v2 la lb b bd rest x y vals L wx

variable {Fin : World → Prop} {i : Nat}
theorem RB.start0 : RB.J w fv rb v1 v2 la lb b bd rest x y Fin (fun _ => undef) (fun _ => false) w.drew := RB.start
theorem RB.J.out (hz : L 15 = false) (h : RB.J w fv rb v1 v2 la lb b bd rest x y Fin vals L wx) : RB w fv rb v1 v2 la lb b bd rest x y vals L wx := by unfold RB.J at h; rw [hz] at h; exact h
theorem RB.J.on (hz : L 15 = false) (hi : i ≠ 15) (h : RB w fv rb v1 v2 la lb b bd rest x y (updN vals i v) (updN L i true) wx) : RB.J w fv rb v1 v2 la lb b bd rest x y Fin (updN vals i v) (updN L i true) wx := by
  have e : updN L i true 15 = false := by simp only [updN]; rw [if_neg (Ne.symm hi)]; exact hz
  unfold RB.J; rw [e]; exact h
theorem RB.J.end (h : Fin wx) : RB.J w fv rb v1 v2 la lb b bd rest x y Fin (updN vals 15 v) (updN L 15 true) wx := by
  have e : updN L 15 true 15 = true := by simp [updN]
  unfold RB.J; rw [e]; exact h
theorem RB.J.fin (hz : L 15 = true) (h : RB.J w fv rb v1 v2 la lb b bd rest x y Fin vals L wx) : Fin wx := by unfold RB.J at h; rw [hz] at h; exact h
end

end Go.Proofs.YtfhpfbakoiekpaaGreatDoor

/- 'append(v, x...)' of a whole slice of ints to a row of the call's own. -/
namespace Go.Proofs.YtfhpfbakoiekpaaGreatDoor
open Go.RowKit


theorem map_ix (m : List Int) (j : Nat) (hj : j < m.length) : (m.map (Value.int .i64))[j]? = some (.int .i64 (ix m j)) := by
  simp [ix, List.getD_eq_getElem?_getD, List.getElem?_eq_getElem hj]

theorem Ints.src {w : World} {x : Value} {m : List Int} (h : Ints w x m) : _root_.Go.Src Tryz.prog 1 23 x m.length (m.map (Value.int .i64)) w := by
  obtain ⟨a, c, rfl, -, -, -, hc⟩ := h.form
  cases m with
  | nil =>
    cases a with
    | none => exact _root_.Go.Src.ofNil w Tryz.underlying23 c
    | some a => exact _root_.Go.Src.ofSlice w Tryz.underlying23 a 0 c [] (by simp) (fun j u hu => by simp at hu) (fun u hu => by simp at hu)
  | cons y m =>
    obtain ⟨b, off, rfl, -, hcc⟩ := hc (by simp)
    refine _root_.Go.Src.ofSlice w Tryz.underlying23 ⟨b, off, none⟩ _ c ((y :: m).map (Value.int .i64)) (by simp) (fun j u hu => ?_) (fun u hu => ?_)
    · have hj : j < (y :: m).length := by have := (List.getElem?_eq_some_iff.1 hu).1; simpa using this
      have hadd : (⟨b, off, none⟩ : Addr).add j = ⟨b, off + j, none⟩ := by unfold Addr.add; split <;> simp_all
      rw [hadd, hcc j hj, ← hu, map_ix _ j hj]
    · obtain ⟨z, -, rfl⟩ := List.mem_map.1 hu
      simp [Value.oneCell']

theorem ix_app (l m : List Int) (i : Nat) : ix (l ++ m) i = if i < l.length then ix l i else ix m (i - l.length) := by
  split
  · rename_i h; simp [ix, List.getElem?_append_left h]
  · rename_i h; simp [ix, List.getElem?_append_right (Nat.le_of_not_lt h)]

theorem Fits.app {l m : List Int} (h : Fits l) (k : Fits m) : Fits (l ++ m) := fun i => by
  rw [ix_app]; split
  · exact h i
  · exact k _

theorem run_appendQs (base : Nat) (T ty : TypeId) (hT : Tryz.prog.underlying T = some (.slice 3)) (hTT : T = 23) (w : World) (v : Value) (l : List Int) (h : QRow base w v l) (x : Value) (m : List Int) (hx : Ints w x m)
    (hlen : (l.length + m.length) * 8 ≤ 140737488351232) (hbase : base ≤ w.heap.size) :
    ∃ v' w', (Builtin.append_ #[T, T] ty #[v, x]).run Tryz.prog w = .ok v' w' ∧ QRow base w' v' (l ++ m) ∧ w.grownBy w' v.ownBlock ∧ (v'.ownBlock = v.ownBlock ∨ v'.ownBlock = some w.heap.size) := by
  subst hTT
  have hi := infoI
  obtain ⟨i, hi, he⟩ := Option.map_eq_some_iff.1 hi
  simp only [Prod.mk.injEq] at he
  obtain ⟨hz, hs, hby⟩ := he
  have hsrc := hx.src
  have hsrc' : _root_.Go.Src Tryz.prog i.size 23 x m.length (m.map (Value.int .i64)) w := by rw [hs]; exact hsrc
  have hfit := h.1.app hx.2
  have zc : ∀ n, (Builtin.zeroCells (Value.int .i64 0).cells n).size = n := fun n => by simp [Builtin.zeroCells, Value.cells]
  have grow : ∀ (cur : Array Value) (cap : Nat), cur.size = cap → cap ≤ maxLen → l.length + m.length ≤ cap → (∀ i, i < l.length → cur[i]? = some (.int .i64 (ix l i))) → (∀ i, i < m.length → cur[l.length + i]? = some (.int .i64 (ix m i))) →
      QRow base (w.drew.alloc (.cells cur 3)) (.slice (some ⟨w.heap.size, 0, none⟩) (l.length + m.length) cap) (l ++ m) ∧ ∀ row, w.grownBy (w.drew.alloc (.cells cur 3)) row := by
    intro cur cap h1 h2 h3 h4 h5
    refine ⟨⟨hfit, .inr ⟨w.heap.size, 0, cap, cur, by simp, hbase, heap_alloc_new w.drew _, by simpa using h3, h2, by omega, fun j hj => ?_⟩⟩, fun row => ⟨rfl, rfl, rfl, by simp, fun k hk _ => Below.heap_alloc w.drew _ _ hk⟩⟩
    simp only [List.length_append] at hj
    rw [ix_app, Nat.zero_add]
    split
    · rename_i hlt; exact h4 j hlt
    · have := h5 (j - l.length) (by omega)
      rw [show l.length + (j - l.length) = j by omega] at this
      exact this
  have growAt : ∀ (b0 : Option Addr) (cap : Nat) (olds : List Value), (Builtin.firstCells i.size l.length (.slice b0 l.length cap)).run Tryz.prog w.drew = .ok olds.toArray w.drew → olds = (List.range l.length).map (fun i => Value.int .i64 (ix l i)) → cap < l.length + m.length →
      ∃ v' w', (Builtin.append_ #[23, 23] ty #[.slice b0 l.length cap, x]).run Tryz.prog w = .ok v' w' ∧ QRow base w' v' (l ++ m) ∧ (∀ row, w.grownBy w' row) ∧ v'.ownBlock = some w.heap.size := by
    intro b0 cap olds hold holds hlt
    have hr := run_append_grow_src (P := Tryz.prog) w 23 23 ty 3 i _ hT hi hz b0 l.length cap olds hold x m.length _ hsrc' hlt (by omega) (growslice_fits hlt (by rw [hby]; omega))
    have hge := grownCap_ge w (l.length + m.length) cap 3
    have hlo : olds.length = l.length := by rw [holds]; simp
    obtain ⟨q1, q2⟩ := grow ((olds ++ m.map (Value.int .i64)).toArray ++ Builtin.zeroCells (Value.int .i64 0).cells (grownCap w (l.length + m.length) cap 3 - (l.length + m.length))) (grownCap w (l.length + m.length) cap 3)
      (by simp only [Array.size_append, List.size_toArray, List.length_append, List.length_map, hlo, zc]; omega) (grownCap_le_maxLen w (l.length + m.length) cap 3 (by unfold maxLen; omega)) hge
      (fun j hj => by
        rw [Array.getElem?_append_left (by simp; omega), List.getElem?_toArray, List.getElem?_append_left (by omega), holds]
        simp [hj])
      (fun j hj => by
        rw [Array.getElem?_append_left (by simp; omega), List.getElem?_toArray, List.getElem?_append_right (by omega), hlo, Nat.add_sub_cancel_left]
        exact map_ix m j hj)
    exact ⟨_, _, hr, q1, q2, rfl⟩
  rcases h.2 with ⟨rfl, rfl⟩ | ⟨g, off, cap, cur, rfl, hbg, hg, hnc, hcm, hcs, hcell⟩
  · cases m with
    | nil =>
      refine ⟨.slice none 0 0, w, ?_, QRow.nil _ _, ⟨rfl, rfl, rfl, Nat.le_refl _, fun _ _ _ => rfl⟩, .inl rfl⟩
      have h0 : (Builtin.firstCells i.size 0 x).run Tryz.prog w = .ok #[] w := hsrc'.cells
      simp [Builtin.append_, run_underlying hT, sizeOf, typeInfo, hi, hsrc'.len, h0]
    | cons y m =>
      obtain ⟨v', w', h1, h2, h3, h4⟩ := growAt none 0 [] (by exact run_firstCells_none (P := Tryz.prog) w.drew i.size 0 0 0) rfl (by simp)
      exact ⟨v', w', h1, h2, h3 _, .inr h4⟩
  · by_cases hroom : l.length + m.length ≤ cap
    · have hst := run_storeCells_at Tryz.prog g (off + l.length) 3 (m.map (Value.int .i64)) 0 cur w hg (by simp only [List.length_map]; omega) (by simp [Value.oneCell'])
      simp only [Nat.add_zero, List.length_map] at hst
      refine ⟨.slice (some ⟨g, off, none⟩) (l.length + m.length) cap, w.setRow g (cur.toList.take (off + l.length) ++ m.map (Value.int .i64) ++ cur.toList.drop (off + l.length + m.length)).toArray, ?_, ⟨hfit, .inr ⟨g, off, cap, (cur.toList.take (off + l.length) ++ m.map (Value.int .i64) ++ cur.toList.drop (off + l.length + m.length)).toArray, by simp, hbg, setRow_heap w g cur _ 3 _ hg, by simpa using hroom, hcm, ?_, fun j hj => ?_⟩⟩, ⟨rfl, rfl, rfl, by simp, fun k _ hk => setRow_other w g k _ (fun e => hk (by simp [Value.ownBlock, e]))⟩, .inl rfl⟩
      · have hadd : (⟨g, off, none⟩ : Addr).add (l.length * i.size) = ⟨g, off + l.length, none⟩ := by rw [hs]; unfold Addr.add; split <;> simp_all
        simp [Builtin.append_, run_underlying hT, sizeOf, typeInfo, hi, hsrc'.len, hroom, hsrc'.cells, hadd, hst]
      · simp only [List.size_toArray, List.length_append, List.length_take, List.length_drop, Array.length_toList, List.length_map]
        omega
      · simp only [List.length_append] at hj
        rw [ix_app]
        split
        · rename_i hlt
          rw [← hcell j hlt]
          simp only [List.getElem?_toArray, List.append_assoc]
          rw [List.getElem?_append_left (by simp; omega), List.getElem?_take_of_lt (by omega)]
          simp
        · simp only [List.getElem?_toArray, List.append_assoc]
          rw [List.getElem?_append_right (by simp; omega)]
          have : min (off + l.length) cur.size = off + l.length := by omega
          simp only [List.length_take, Array.length_toList, this]
          rw [List.getElem?_append_left (by simp; omega), show off + j - (off + l.length) = j - l.length by omega]
          exact map_ix m _ (by omega)
    · have holds : ∀ j u, ((List.range l.length).map (fun i => Value.int .i64 (ix l i)))[j]? = some u → w.drew.cell? ((⟨g, off, none⟩ : Addr).add j) = some u := by
        intro j u hu
        have hadd : (⟨g, off, none⟩ : Addr).add j = ⟨g, off + j, none⟩ := by unfold Addr.add; split <;> simp_all
        have hj : j < l.length := by
          have := (List.getElem?_eq_some_iff.1 hu).1; simpa using this
        rw [hadd]
        show w.cell? _ = _
        rw [cell_of_row w g (off + j) cur 3 (0, 0) hg, hcell j hj]
        simpa [hj] using hu
      obtain ⟨v', w', h1, h2, h3, h4⟩ := growAt (some ⟨g, off, none⟩) cap _ (run_firstCells_some (P := Tryz.prog) w.drew i.size l.length ⟨g, off, none⟩ l.length cap _ (by rw [hs]; simp) holds) rfl (by omega)
      exact ⟨v', w', h1, h2, h3 _, .inr h4⟩

theorem wpList_appendQs {ops : Array Oper} {rest : List Oper} {o : Oper} {a : Act} {w : World} {Q : Exit → Act → World → Prop} (hgd : o.guard = none) (s x : Operand)
    (ho : o.op = .call { callee := .builtin .append, args := #[s, x], argTypes := #[23, 23] }) (base : Nat) (v y : Value) (l m : List Int) (hs : a.eval s = v) (hx : a.eval x = y) (h : QRow base w v l) (hy : Ints w y m)
    (hlen : (l.length + m.length) * 8 ≤ 140737488351232) (hbase : base ≤ w.heap.size)
    (hK : ∀ v' w', QRow base w' v' (l ++ m) → w.grownBy w' v.ownBlock → (v'.ownBlock = v.ownBlock ∨ v'.ownBlock = some w.heap.size) → wpList Tryz.prog ops Q rest (a.put o.dst v') w') : wpList Tryz.prog ops Q (o :: rest) a w :=
  wpList_plain hgd fun _ hK' => by
    obtain ⟨v', w', hr, h2, h3, h4⟩ := run_appendQs base 23 o.type Tryz.underlying23 rfl w v l h y m hy hlen hbase
    unfold Oper.wp execOp
    simp only [ho, resolve, invoke, builtin, Sem.run_bind, Sem.run_pure, Result.andThen_ok, List.map_toArray, List.map_cons, List.map_nil, hs, hx, hr]
    exact hK' _ _ (hK v' w' h2 h3 h4)

/-- An empty slice that a literal has made. -/
theorem QRow.empty {base b : Nat} {w : World} (h : w.heap[b]? = some (.cells #[] 3 (0, 0))) (hb : base ≤ b) : QRow base w (.slice (some ⟨b, 0, none⟩) 0 0) [] :=
  ⟨fun i => by simp [ix], .inr ⟨b, 0, 0, #[], rfl, hb, h, by simp, by unfold maxLen; omega, by simp, fun i hi => by simp at hi⟩⟩

end Go.Proofs.YtfhpfbakoiekpaaGreatDoor

/- complete: the closures put and clause of Completion; negated. -/
namespace Go.Proofs.YtfhpfbakoiekpaaGreatDoor
open Go.RowKit

theorem infoC : (Tryz.prog.info? 30).map (fun i => (i.zero, i.size, i.bytes)) = some (some (.agg #[.slice none 0 0, .slice none 0 0, .int .i64 0]), 3, 56) := by kernel_rfl

section
variable {B ob n : Nat} {xs : List Value} {v : Value} {w w' W2 w3 : World} {L : List CQ}

theorem rowC_isC (h : w.ownsRow B 30 3 v n xs) : ∀ g, v.ownBlock = some g → B ≤ g ∧ isC w g := fun g e => by
  rcases h.2 with ⟨rfl, _⟩ | ⟨g', cap, cur, rfl, hb, hg, _⟩
  · cases e
  · have : g' = g := by simpa [Value.ownBlock] using e
    subst this
    exact ⟨hb, cur, (0, 0), .inr hg⟩

theorem CLim.grown (h : w.ownsRow B 30 3 v n xs) (hg : w.grownBy w' v.ownBlock) : CLim B w w' :=
  ⟨hg.os, hg.tape, hg.output, hg.size, fun i hi hn => hg.block i hi fun e => by
    obtain ⟨h1, h2⟩ := rowC_isC h i e.symm
    exact hn h1 h2⟩

theorem MineC.setOther {c : List Value} {T : TypeId} (h : MineC B v L w) (hb : Blk w ob c T) (h1 : T ≠ 30) (h2 : T ≠ 3) (u : Value) : MineC B v L (w.setCell ⟨ob, 0, none⟩ u) := by
  refine ⟨h.row.kept (grownBy_setCell' w ob u) (.inr fun e => ?_), fun q hq => ?_⟩
  · rcases h.row.2 with ⟨rfl, _⟩ | ⟨g, cap, cur, rfl, _, hg, _⟩
    · cases e
    · have : g = ob := by simpa [Value.ownBlock] using e
      subst this
      unfold Blk at hb
      rw [hg] at hb
      have := Option.some.inj hb
      injection this with _ h3 _
      exact h1 h3.symm
  · obtain ⟨q1, q2, q3⟩ := h.each q hq
    have k : ∀ (x : Value) (l : List Int), QRow B w x l → QRow B (w.setCell ⟨ob, 0, none⟩ u) x l := fun x l hx => hx.kept fun i _ _ hi => Below.heap_setCell _ _ _ _ fun e => hx.far hb h2 (show x.ownBlock = some ob by rw [hi]; exact congrArg some e)
    exact ⟨k _ _ q1, k _ _ q2, q3⟩

/-- A constraint is pushed. -/
theorem outC_push {g cap : Nat} {q : CQ} {A : Nat → Prop} (hA : ∀ q ∈ L, ∀ g, (q.2.1.ownBlock = some g ∨ q.2.2.ownBlock = some g) → ¬ A g) (hAq : ∀ g, (q.2.1.ownBlock = some g ∨ q.2.2.ownBlock = some g) → ¬ A g) (hob : Blk W2 ob [v] 43) (hm : MineC B v L W2) (hB : B ≤ ob)
    (hq : QRow B W2 q.2.1 q.1.lits ∧ QRow B W2 q.2.2 q.1.coefs ∧ InI q.1.bound ∧ q.1.lits.length ≤ 65536 ∧ q.1.coefs.length ≤ 65536)
    (hown : w3.ownsRow B 30 3 (.slice (some ⟨g, 0, none⟩) (L.length + 1) cap) (L.length + 1) (L.flatMap cells3 ++ cells3 q)) (hg : W2.grownBy w3 v.ownBlock) :
    Blk w3 ob [v] 43 ∧ OutC B ob A (L.map (·.1) ++ [q.1]) (w3.setCell ⟨ob, 0, none⟩ (.slice (some ⟨g, 0, none⟩) (L.length + 1) cap)) ∧ CLim B W2 (w3.setCell ⟨ob, 0, none⟩ (.slice (some ⟨g, 0, none⟩) (L.length + 1) cap)) := by
  have h3 : Blk w3 ob [v] 43 := hob.same (hg.block ob hob.lt fun e => by
    rcases hm.row.2 with ⟨rfl, _⟩ | ⟨g', cap', cur, rfl, _, hgg, _⟩
    · cases e
    · have : g' = ob := by simpa [Value.ownBlock] using e.symm
      subst this
      unfold Blk at hob
      rw [hgg] at hob
      have := Option.some.inj hob
      injection this with _ h3 _
      revert h3; decide)
  have hp := hm.push hq hown hg
  refine ⟨h3, ⟨_, L ++ [q], h3.set 0 _, hp.setOther h3 (by decide) (by decide) _, by simp, fun q' hq' => by
    rcases List.mem_append.1 hq' with hq' | hq'
    · exact hA q' hq'
    · obtain rfl : q' = q := by simpa using hq'
      exact hAq⟩, (CLim.grown hm.row hg).trans ?_⟩
  exact ⟨rfl, rfl, rfl, by simp [World.setCell], fun i hi hn => Below.heap_setCell _ _ _ _ fun e => by
    subst e
    exact hn hB ⟨_, _, .inl h3⟩⟩
end

set_option maxHeartbeats 4000000 in
set_option maxRecDepth 100000 in
theorem cput_any {B ob : Nat} {A : Nat → Prop} (vl vk : Value) (l k : List Int) (bd : Int) (lst : List PBC) (w : World) (hl : Ints w vl l) (hk : Ints w vk k) (hbd : InI bd) (ho : OutC B ob A lst w) (hAw : ∀ g, A g → g < w.heap.size) (hB : B ≤ ob) (hlen : lst.length ≤ 1000000000) :
    Calls Tryz.prog 56 #[vl, vk, .int .i64 bd, .pointer (some ⟨ob, 0, none⟩)] w fun e w' => e = .returned (.tuple #[]) ∧ OutC B ob A (lst ++ [(normP l k bd).1]) w' ∧ CLim B w w' := by
  obtain ⟨i0, hi, hz0, hz1, hz2⟩ := info_parts infoC
  obtain ⟨v, L, hob, hm, rfl, ha⟩ := ho
  have HA := Lib.hid ha
  have HAW := Lib.hid hAw
  clear ha hAw
  rw [List.length_map] at hlen
  obtain ⟨av, nv, cv, rfl⟩ : ∃ a n c, v = .slice a n c := by
    rcases hm.row.2 with ⟨rfl, _⟩ | ⟨g, cap, cur, rfl, _⟩ <;> exact ⟨_, _, _, rfl⟩
  obtain ⟨a1, c1, rfl, -⟩ := hl.form
  obtain ⟨a2, c2, rfl, -⟩ := hk.form
  have HL := Lib.hid hl
  have HK := Lib.hid hk
  have HBD := Lib.hid hbd
  have HO := Lib.hid hob
  have HM := Lib.hid hm
  have hlob := hob.lt
  obtain ⟨⟨c, er⟩, hc⟩ : ∃ c, normP l k bd = c := ⟨_, rfl⟩
  rw [hc]
  have HC := Lib.hid hc
  clear hl hk hbd hob hm hc
  go_enter Tryz.func56, Tryz.ntmps56
  go_upto_region 1 with (go_at_call 57; (with_reducible refine (norm_any _ _ l k bd w HL.out HK.out HBD.out).mono ?_); rintro e w1 ⟨vp, e1, hq, hb1⟩; rw [HC.out] at e1 hq; subst e1; obtain ⟨vl, vk, rfl, hq1, hq2, hq3⟩ := hq; obtain ⟨al, cl, rfl⟩ := hq1.slen; obtain ⟨ak, ck, rfl⟩ := hq2.slen; have HAQ : Hid (∀ g, ((Value.slice al c.lits.length cl).ownBlock = some g ∨ (Value.slice ak c.coefs.length ck).ownBlock = some g) → ¬ A g) := Lib.hid (fun g e ha => by have h0 := HAW.out g ha; rcases e with e | e; (have := (hq1.base e).1; omega); (have := (hq2.base e).1; omega)); have HQA := Lib.hid (hq1.mono (Nat.le_trans hB (Nat.le_of_lt hlob))); have HQB := Lib.hid (hq2.mono (Nat.le_trans hB (Nat.le_of_lt hlob))); have HQC := Lib.hid hq3; have HB1 := Lib.hid hb1; clear hq1 hq2 hq3 hb1)
  have hal1 := bal (Below.refl w1.heap.size w1) (.cells #[.slice al c.lits.length cl, .slice ak c.coefs.length ck, .int .i64 c.bound] 30)
  have kc1 := (Blk.new w1 [.slice al c.lits.length cl, .slice ak c.coefs.length ck, .int .i64 c.bound] 30).cell
  have HB01 := Lib.hid (bon HB1.out hal1)
  have HQ1 : Hid (QRow B (w1.alloc (.cells #[.slice al c.lits.length cl, .slice ak c.coefs.length ck, .int .i64 c.bound] 30)) (.slice al c.lits.length cl) c.lits ∧ QRow B (w1.alloc (.cells #[.slice al c.lits.length cl, .slice ak c.coefs.length ck, .int .i64 c.bound] 30)) (.slice ak c.coefs.length ck) c.coefs) := Lib.hid ⟨HQA.out.below hal1, HQB.out.below hal1⟩
  clear hal1
  generalize w1.alloc (.cells #[.slice al c.lits.length cl, .slice ak c.coefs.length ck, .int .i64 c.bound] 30) = W1 at *
  have ko1 := (HO.out.below HB01.out).cell 0
  have hal2 := bal (Below.refl W1.heap.size W1) (.cells #[.slice al c.lits.length cl, .slice ak c.coefs.length ck, .int .i64 c.bound] 30)
  have HB02 := Lib.hid (bon HB01.out hal2)
  have HO2 := Lib.hid (HO.out.below HB02.out)
  have HM2 := Lib.hid (HM.out.below HB02.out)
  have HQ2 := Lib.hid (And.intro (HQ1.out.1.below hal2) (And.intro (HQ1.out.2.below hal2) HQC.out))
  have hnw := Blk.new W1 [.slice al c.lits.length cl, .slice ak c.coefs.length ck, .int .i64 c.bound] 30
  have HNW : Hid (∀ j u, [Value.slice al c.lits.length cl, .slice ak c.coefs.length ck, .int .i64 c.bound][j]? = some u → (W1.alloc (.cells #[.slice al c.lits.length cl, .slice ak c.coefs.length ck, .int .i64 c.bound] 30)).cell? ((⟨W1.heap.size, 0, none⟩ : Addr).add j) = some u) := Lib.hid (fun j u hu => by rw [Addr.add_lit, Nat.zero_add]; exact (hnw.cell j).trans hu)
  have HONE : Hid (∀ u ∈ [Value.slice al c.lits.length cl, .slice ak c.coefs.length ck, .int .i64 c.bound], u.oneCell' = true) := Lib.hid (fun u hu => by simp only [List.mem_cons, List.not_mem_nil, or_false] at hu; rcases hu with rfl | rfl | rfl <;> rfl)
  have hob1 : ob < W1.heap.size := (HO.out.below HB01.out).lt
  have hBW := HB01.out.size
  clear hal2 hnw
  go_wp2_with (at_builtin; go_must (refine wpList_append_own _ rfl _ _ 43 rfl B 30 i0 _ 3 56 Tryz.underlying43 hi hz0 hz1 hz2 rfl (by decide) _ L.length (L.flatMap cells3) rfl HM2.out.row ⟨W1.heap.size, 0, none⟩ 1 1 _ rfl rfl HNW.out HONE.out (by unfold maxLen; omega) (by omega) (by simp; omega) ?_); intro v' w3 hown hgrow _; obtain ⟨g', cap', rfl⟩ := ownsRow_succ hown; obtain ⟨hp1, hp2, hp3⟩ := outC_push (q := (c, .slice al c.lits.length cl, .slice ak c.coefs.length ck)) HA.out HAQ.out HO2.out HM2.out hB HQ2.out hown hgrow; have kp3 := hp1.cell 0; have kf3 := hp1.free 0; have HP2 := Lib.hid hp2; have HP3 := Lib.hid hp3; clear hown hgrow hp1 hp2 hp3)
  go_end0
  exact ⟨rfl, HP2.out, (CLim.of_below HB02.out).trans HP3.out⟩

set_option maxHeartbeats 4000000 in
set_option maxRecDepth 100000 in
theorem cclause_any {B ob : Nat} {A : Nat → Prop} (vl : Value) (l : List Int) (lst : List PBC) (w : World) (hl : Ints w vl l) (ho : OutC B ob A lst w) (hAw : ∀ g, A g → g < w.heap.size) (hB : B ≤ ob) (hlen : lst.length ≤ 1000000000) :
    Calls Tryz.prog 58 #[vl, .pointer (some ⟨ob, 0, none⟩)] w fun e w' => e = .returned (.tuple #[]) ∧ OutC B ob A (lst ++ [(clauseP l).1]) w' ∧ CLim B w w' := by
  obtain ⟨i0, hi, hz0, hz1, hz2⟩ := info_parts infoC
  obtain ⟨v, L, hob, hm, rfl, ha⟩ := ho
  have HA := Lib.hid ha
  have HAW := Lib.hid hAw
  clear ha hAw
  rw [List.length_map] at hlen
  obtain ⟨av, nv, cv, rfl⟩ : ∃ a n c, v = .slice a n c := by
    rcases hm.row.2 with ⟨rfl, _⟩ | ⟨g, cap, cur, rfl, _⟩ <;> exact ⟨_, _, _, rfl⟩
  obtain ⟨a1, c1, rfl, -⟩ := hl.form
  have HL := Lib.hid hl
  have HO := Lib.hid hob
  have HM := Lib.hid hm
  have hlob := hob.lt
  obtain ⟨⟨c, er⟩, hc⟩ : ∃ c, clauseP l = c := ⟨_, rfl⟩
  rw [hc]
  have HC := Lib.hid hc
  clear hl hob hm hc
  go_enter Tryz.func58, Tryz.ntmps58
  go_upto_region 1 with (go_at_call 30; (with_reducible refine (clause_any _ l w HL.out).mono ?_); rintro e w1 ⟨vp, e1, hq, hb1⟩; rw [HC.out] at e1 hq; subst e1; obtain ⟨vl, vk, rfl, hq1, hq2, hq3⟩ := hq; obtain ⟨al, cl, rfl⟩ := hq1.slen; obtain ⟨ak, ck, rfl⟩ := hq2.slen; have HAQ : Hid (∀ g, ((Value.slice al c.lits.length cl).ownBlock = some g ∨ (Value.slice ak c.coefs.length ck).ownBlock = some g) → ¬ A g) := Lib.hid (fun g e ha => by have h0 := HAW.out g ha; rcases e with e | e; (have := (hq1.base e).1; omega); (have := (hq2.base e).1; omega)); have HQA := Lib.hid (hq1.mono (Nat.le_trans hB (Nat.le_of_lt hlob))); have HQB := Lib.hid (hq2.mono (Nat.le_trans hB (Nat.le_of_lt hlob))); have HQC := Lib.hid hq3; have HB1 := Lib.hid hb1; clear hq1 hq2 hq3 hb1)
  have hal1 := bal (Below.refl w1.heap.size w1) (.cells #[.slice al c.lits.length cl, .slice ak c.coefs.length ck, .int .i64 c.bound] 30)
  have kc1 := (Blk.new w1 [.slice al c.lits.length cl, .slice ak c.coefs.length ck, .int .i64 c.bound] 30).cell
  have HB01 := Lib.hid (bon HB1.out hal1)
  have HQ1 : Hid (QRow B (w1.alloc (.cells #[.slice al c.lits.length cl, .slice ak c.coefs.length ck, .int .i64 c.bound] 30)) (.slice al c.lits.length cl) c.lits ∧ QRow B (w1.alloc (.cells #[.slice al c.lits.length cl, .slice ak c.coefs.length ck, .int .i64 c.bound] 30)) (.slice ak c.coefs.length ck) c.coefs) := Lib.hid ⟨HQA.out.below hal1, HQB.out.below hal1⟩
  clear hal1
  generalize w1.alloc (.cells #[.slice al c.lits.length cl, .slice ak c.coefs.length ck, .int .i64 c.bound] 30) = W1 at *
  have ko1 := (HO.out.below HB01.out).cell 0
  have hal2 := bal (Below.refl W1.heap.size W1) (.cells #[.slice al c.lits.length cl, .slice ak c.coefs.length ck, .int .i64 c.bound] 30)
  have HB02 := Lib.hid (bon HB01.out hal2)
  have HO2 := Lib.hid (HO.out.below HB02.out)
  have HM2 := Lib.hid (HM.out.below HB02.out)
  have HQ2 := Lib.hid (And.intro (HQ1.out.1.below hal2) (And.intro (HQ1.out.2.below hal2) HQC.out))
  have hnw := Blk.new W1 [.slice al c.lits.length cl, .slice ak c.coefs.length ck, .int .i64 c.bound] 30
  have HNW : Hid (∀ j u, [Value.slice al c.lits.length cl, .slice ak c.coefs.length ck, .int .i64 c.bound][j]? = some u → (W1.alloc (.cells #[.slice al c.lits.length cl, .slice ak c.coefs.length ck, .int .i64 c.bound] 30)).cell? ((⟨W1.heap.size, 0, none⟩ : Addr).add j) = some u) := Lib.hid (fun j u hu => by rw [Addr.add_lit, Nat.zero_add]; exact (hnw.cell j).trans hu)
  have HONE : Hid (∀ u ∈ [Value.slice al c.lits.length cl, .slice ak c.coefs.length ck, .int .i64 c.bound], u.oneCell' = true) := Lib.hid (fun u hu => by simp only [List.mem_cons, List.not_mem_nil, or_false] at hu; rcases hu with rfl | rfl | rfl <;> rfl)
  have hob1 : ob < W1.heap.size := (HO.out.below HB01.out).lt
  have hBW := HB01.out.size
  clear hal2 hnw
  go_wp2_with (at_builtin; go_must (refine wpList_append_own _ rfl _ _ 43 rfl B 30 i0 _ 3 56 Tryz.underlying43 hi hz0 hz1 hz2 rfl (by decide) _ L.length (L.flatMap cells3) rfl HM2.out.row ⟨W1.heap.size, 0, none⟩ 1 1 _ rfl rfl HNW.out HONE.out (by unfold maxLen; omega) (by omega) (by simp; omega) ?_); intro v' w3 hown hgrow _; obtain ⟨g', cap', rfl⟩ := ownsRow_succ hown; obtain ⟨hp1, hp2, hp3⟩ := outC_push (q := (c, .slice al c.lits.length cl, .slice ak c.coefs.length ck)) HA.out HAQ.out HO2.out HM2.out hB HQ2.out hown hgrow; have kp3 := hp1.cell 0; have kf3 := hp1.free 0; have HP2 := Lib.hid hp2; have HP3 := Lib.hid hp3; clear hown hgrow hp1 hp2 hp3)
  go_end0
  exact ⟨rfl, HP2.out, (CLim.of_below HB02.out).trans HP3.out⟩

/-! ### negated -/
def negCells (l : List Int) (k : Nat) : List Value := (List.range l.length).map fun j => .int .i64 (if j < k then -(ix l j) else 0)

theorem negCells_set {l : List Int} {k : Nat} (hk : k < l.length) : (negCells l k).set k (.int .i64 (-(ix l k))) = negCells l (k + 1) := by
  unfold negCells
  refine List.ext_getElem? fun i => ?_
  by_cases hi : i < l.length
  · by_cases e : i = k
    · subst e
      rw [List.getElem?_set_self (by simpa using hi)]
      simp [hi]
    · rw [List.getElem?_set_ne (Ne.symm e)]
      simp only [List.getElem?_map, List.getElem?_range hi, Option.map_some]
      by_cases h1 : i < k
      · rw [if_pos h1, if_pos (by omega)]
      · rw [if_neg h1, if_neg (by omega)]
  · rw [List.getElem?_eq_none (by simp; omega), List.getElem?_eq_none (by simp; omega)]

theorem negCells_zero (l : List Int) : negCells l 0 = List.replicate l.length (.int .i64 0) := by
  unfold negCells
  rw [List.eq_replicate_iff]
  exact ⟨by simp, fun x hx => by obtain ⟨j, -, rfl⟩ := List.mem_map.1 hx; rfl⟩

theorem negCells_all (l : List Int) : negCells l l.length = (negL l).map (Value.int .i64) := by
  unfold negCells negL
  refine List.ext_getElem? fun i => ?_
  by_cases hi : i < l.length
  · simp only [List.getElem?_map, List.getElem?_range hi, Option.map_some, if_pos hi, List.getElem?_eq_getElem hi]
    rw [ix_get hi]
  · rw [List.getElem?_eq_none (by simp; omega), List.getElem?_eq_none (by simp; omega)]

def NegRel (W : World) (l : List Int) (i : Value) (wx : World) : Prop := ∃ k : Nat, k ≤ l.length ∧ i = .int .i64 k ∧ Below W.heap.size W wx ∧ Blk wx W.heap.size (negCells l k) 3

set_option maxHeartbeats 4000000 in
set_option maxRecDepth 100000 in
theorem negated_any (v : Value) (l : List Int) (w : World) (h : Ints w v l) (hn : ∀ x ∈ l, -1000000 ≤ x ∧ x ≤ 1000000) :
    Calls Tryz.prog 60 #[v] w fun e w' => ∃ v', e = .returned v' ∧ QRow w.heap.size w' v' (negL l) ∧ Below w.heap.size w w' := by
  obtain ⟨a1, c1, rfl, -, hl1, -, hcell⟩ := h.form
  have h8 : l.length * 8 ≤ 140737488351232 := by obtain ⟨⟨_, _, _, _, _, h, _⟩, _⟩ := h; exact h
  have HC := Lib.hid hcell
  have HN := Lib.hid hn
  have hmk : ∀ w : World, (Instr.makeSlice 23 (.int .i64 (l.length : Int)) (.int .i64 (l.length : Int))).run Tryz.prog w = .ok (.slice (some ⟨w.heap.size, 0, none⟩) l.length l.length) (w.alloc (.cells (madeCells #[.int .i64 0] l.length) 3)) := fun w => run_make_row' _ _ _ _ Tryz.underlying23 infoI rfl .i64 .i64 l.length (by omega) (by omega) w
  have hst : Below w.heap.size w (w.alloc (.cells (madeCells #[.int .i64 0] l.length) 3)) ∧ Blk (w.alloc (.cells (madeCells #[.int .i64 0] l.length) 3)) w.heap.size (negCells l 0) 3 := by
    refine ⟨bal (Below.refl _ _) _, ?_⟩
    have := Blk.new w (List.replicate l.length (Value.int .i64 0)) 3
    rw [← made_row] at this
    rw [negCells_zero]
    exact this
  have HST := Lib.hid hst
  clear h hcell hn hst
  go_enter Tryz.func60, Tryz.ntmps60
  go_upto_region 3 with fail
  clear hmk
  go_loopw [11] (fun i wx => NegRel w l i wx) (fun i _ => l.length - (intOf i).toNat)
  case atStart => exact ⟨0, Nat.zero_le _, rfl, HST.out.1, HST.out.2⟩
  case round =>
    obtain ⟨k, hk, rfl, hb, hbl⟩ := hrel
    have HB := Lib.hid hb
    by_cases hlt : k < l.length
    · obtain ⟨b, off, rfl, hbw, hc⟩ := HC.out (by omega)
      have kl := (bcell hb _ _ hbw).trans (hc k hlt)
      have kc := hbl.cell k
      have kf := hbl.free k
      have hg : (negCells l k)[k]? = some (.int .i64 0) := by simp [negCells, hlt]
      rw [hg] at kc
      have hx := HN.out _ (ix_mem hlt)
      have HN1 := Lib.hid (show Below w.heap.size w (wr.setCell ⟨w.heap.size, k, none⟩ (.int .i64 (-(ix l k)))) from hb.setCell (p := ⟨w.heap.size, k, none⟩) (Nat.le_refl _) _)
      have hbs := hbl.set k (.int .i64 (-(ix l k)))
      rw [negCells_set hlt] at hbs
      have HN2 := Lib.hid hbs
      clear hb hbl hc hg hbs
      go_wp2
      first
        | (go_roundw
           case rel => (exact ⟨k + 1, hlt, by go_num, HN1.out, HN2.out⟩)
           case measure => (simp [intOf]; omega))
        | (refine ⟨?_, ?_⟩
           · (exact ⟨k + 1, hlt, by go_num, HN1.out, HN2.out⟩)
           · (simp [intOf]; omega))
    · obtain rfl : k = l.length := by omega
      have hq : QRow w.heap.size wr (.slice (some ⟨w.heap.size, 0, none⟩) l.length l.length) (negL l) := by
        rw [negCells_all] at hbl
        have hlen : (negL l).length = l.length := negL_len l
        refine ⟨fitI fun x hx => by unfold negL at hx; obtain ⟨y, hy, rfl⟩ := List.mem_map.1 hx; have := HN.out y hy; unfold InI; omega, .inr ⟨w.heap.size, 0, l.length, _, by rw [hlen], Nat.le_refl _, hbl, by omega, by unfold maxLen; omega, by simp [negL], fun i hi => ?_⟩⟩
        rw [Nat.zero_add, List.getElem?_toArray]
        exact map_ix _ i hi
      have HQ := Lib.hid hq
      clear hq hb hbl
      go_wp2
      go_ret
      exact ⟨_, rfl, HQ.out, HB.out⟩

end Go.Proofs.YtfhpfbakoiekpaaGreatDoor

/- loops.Valid's closure: membership in the constraint's literals. -/
namespace Go.Proofs.YtfhpfbakoiekpaaGreatDoor
open Go.RowKit

/-- The constraint that the closure has captured. -/
def InV (w : World) (cb : Nat) (L : List Int) : Prop := ∃ vl vk bd, Blk w cb [vl, vk, .int .i64 bd] 30 ∧ Ints w vl L

theorem InV.below {w w' : World} {cb : Nat} {L : List Int} (h : InV w cb L) (hb : Below w.heap.size w w') : InV w' cb L :=
  let ⟨vl, vk, bd, h1, h2⟩ := h; ⟨vl, vk, bd, h1.below hb, h2.below hb⟩

end Go.Proofs.YtfhpfbakoiekpaaGreatDoor

/- loops (for Valid; printed by dupv.py): support.excluded, with Unfounded's closure. -/
namespace Go.Proofs.YtfhpfbakoiekpaaGreatDoor
open Go.RowKit



/-- What excluded has boxed: the support, the closure, the assignment. -/
structure EnvUV (w : World) (sb fb ab : Nat) (u : SU) (a : List Int) : Prop where
  sup : SupB w sb u
  fn : Blk w fb [.func (.func 44) #[] #[.pointer (some ⟨ab, 0, none⟩)]] 73
  asg : InV w ab a

theorem EnvUV.below {w w' : World} {sb fb ab : Nat} {u : SU} {a : List Int} (h : EnvUV w sb fb ab u a) (hb : Below w.heap.size w w') : EnvUV w' sb fb ab u a := ⟨h.sup.below hb, h.fn.below hb, h.asg.below hb⟩

section
variable {w : World} {sb fb ab : Nat} {u : SU} {a : List Int}

end

section
variable {w : World} {sb fb ab : Nat} {u : SU} {a : List Int}

end

end Go.Proofs.YtfhpfbakoiekpaaGreatDoor

/- loops (for Valid; printed by dupv.py): all: a range over the supports. -/
namespace Go.Proofs.YtfhpfbakoiekpaaGreatDoor
open Go.RowKit Go.Shelf
attribute [local go_sem] Oper.semAt_some

end Go.Proofs.YtfhpfbakoiekpaaGreatDoor

/- loops.Make: what it computes (plain). -/
namespace Go.Proofs.YtfhpfbakoiekpaaGreatDoor

/-- The reasons, behind the body's variable and the first false literal. -/
def reas2 (u : SU) (a : List Int) : List Int :=
  match (oth u).find? (fun h => offB a (-h)) with
  | some h => [-h]
  | none => u.r.body.filter (fun l => !(intB u.S l || !offB a l))

def reas1 (u : SU) (a : List Int) : List Int :=
  if u.r.sum then reas2 u a
  else match u.r.body.find? (fun l => offB a l) with
    | some l => [l]
    | none => reas2 u a

def reasP (u : SU) (a : List Int) : List Int :=
  if impB u then [] else if offB a u.b then [u.b] else reas1 u a

def reasAll (a : List Int) (l : List SU) : List Int := l.flatMap (fun u => reasP u a)

theorem reasAll_snoc (a : List Int) (l : List SU) (u : SU) : reasAll a (l ++ [u]) = reasAll a l ++ reasP u a := by simp [reasAll]

end Go.Proofs.YtfhpfbakoiekpaaGreatDoor

/- loops: the closures of support.reasons. -/
namespace Go.Proofs.YtfhpfbakoiekpaaGreatDoor
open Go.RowKit

structure EnvR (w : World) (sb ab fb : Nat) (u : SU) (a : List Int) : Prop where
  sup : SupB w sb u
  asg : InU w ab a
  fn : Blk w fb [.func (.func 79) #[] #[.pointer (some ⟨ab, 0, none⟩)]] 73

theorem EnvR.below {w w' : World} {sb ab fb : Nat} {u : SU} {a : List Int} (h : EnvR w sb ab fb u a) (hb : Below w.heap.size w w') : EnvR w' sb ab fb u a := ⟨h.sup.below hb, h.asg.below hb, h.fn.below hb⟩

section
variable {w : World} {sb fb ab : Nat} {u : SU} {a : List Int}

end

/-! ### The plain side -/
end Go.Proofs.YtfhpfbakoiekpaaGreatDoor

/- loops: the iterator supports$1: its contract, several blocks being written by the body (printed by supsr.py). -/
namespace Go.Proofs.YtfhpfbakoiekpaaGreatDoor
open Go.RowKit

attribute [local go_sem] Oper.semAt_some

def SUok2 (u : SU) : Prop := SUok u ∧ u.r.body.length ≤ 8002

/-- A support as a value, its body's length bounded. -/
abbrev SupW (w : World) := { x : Value × SU // SupIs w x.1 x.2 ∧ SUok2 x.2 }
theorem SupW.form {w : World} (x : SupW w) : ∃ vh vb vw vs, x.1.1 = .agg #[.bool x.1.2.r.choice, vh, .bool x.1.2.r.sum, .int .i64 x.1.2.r.bound, vb, vw, .int .i64 x.1.2.b, vs] ∧ (∃ a n c, vh = .slice a n c) ∧ (∃ a n c, vb = .slice a n c) ∧ (∃ a n c, vw = .slice a n c) ∧ ∃ a n c, vs = .slice a n c := by
  obtain ⟨vh, vb, vw, vs, e, h1, h2, h3⟩ := x.2.1
  obtain ⟨⟨_, _, e1, -⟩, -⟩ := h1.head
  obtain ⟨⟨_, _, e2, -⟩, -⟩ := h1.body
  obtain ⟨⟨_, _, e3, -⟩, -⟩ := h1.wts
  obtain ⟨⟨_, _, e4, -⟩, -⟩ := h2
  exact ⟨_, _, _, _, e, ⟨_, _, _, e1⟩, ⟨_, _, _, e2⟩, ⟨_, _, _, e3⟩, ⟨_, _, _, e4⟩⟩

end Go.Proofs.YtfhpfbakoiekpaaGreatDoor
