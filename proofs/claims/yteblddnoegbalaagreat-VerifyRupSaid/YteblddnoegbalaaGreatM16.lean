/- My texts CpB, CpC, Perm5, merged. -/
import Derived.Test.YteblddnoegbalaaGreatM11
import Derived.Test.YteblddnoegbalaaGreatM10
import Derived.Test.YteblddnoegbalaaGreatM09
import Derived.Test.YteblddnoegbalaaGreatM08
import Derived.Test.YteblddnoegbalaaGreatM05
import Derived.Test.YteblddnoegbalaaGreatM04
import Derived.Test.YteblddnoegbalaaGreatM00
import Derived.Test.YteblddnoegbalaaGreatProg
import Derived.WalkKit
import Derived.Lib.Hide
import Derived.Deep.QuietTactic
import Derived.BigQuiet
import Derived.Test.YteblddnoegbalaaGreatM03
import Derived.WalkSpells
import Derived.Lib.SliceRun
import Derived.MapKept
import Derived.Maps.OwnSet
import Derived.Maps.OwnOps
import Derived.Test.YteblddnoegbalaaGreatM02
import Derived.Test.YteblddnoegbalaaGreatM01
import Derived.Deep.AppendLies
import Derived.Lib.Bytealg
import Derived.Deep.DeepCutAuto
import Derived.RangeFuncNested
import Derived.RangeFuncBound
import Derived.RangeFuncCalls
import Derived.RangeFuncLeaves
import Derived.OwnWalkIn
import Derived.TacticsInMore
import Derived.LoopNIn
import Derived.LoopIn
import Derived.Stop.RegionWithIn
import Derived.Shelf.Abstract
import Derived.Maps.RangeWalk
import Derived.Test.YteblddnoegbalaaGreatM07
import Derived.Test.YteblddnoegbalaaGreatM06
import Derived.Lib.SlicesCompact
import Derived.Shelf.Sort.Plain
import Derived.Shelf.Slices.CompactI
import Derived.Shelf.Slices.In.SortNone
import Derived.Shelf.Strconv.Itoa3
import Derived.Shelf.Strings.BuilderK
import Derived.Shelf.Slices.SearchI
import Derived.Shelf.Slices.Empties
import Derived.Sort.OwnSortedInts
import Derived.Sort.QuietThIn
import Derived.RangeFuncBox
import Derived.Maps.OwnIn
import Derived.Lib.RowBridge
import Derived.Deep.OwnRows
import Derived.Deep.DeepMust
import Derived.Test.YteblddnoegbalaaGreatM13
import Derived.Deep.AppendSrc

namespace Go.Proofs.YteblddnoegbalaaGreat
open Go.RowKit
structure RB (w : World) (fv : Value) (rb : Nat) (v1 v2 : Value) (la lb : List Int) (b bd rest x y : Int) (vals : Nat → Value) (L : Nat → Bool) (wx : World) : Prop where
  below : Below w.heap.size w wx
  t0 : L 0 = true → vals 0 = fv
  t1 : L 1 = true → vals 1 = .pointer (some ⟨rb, 4, none⟩)
  t2 : L 2 = true → vals 2 = v1
  t4 : L 4 = true → vals 4 = .int .i64 b
  t7 : L 7 = true → vals 7 = .pointer (some ⟨rb, 5, none⟩)
  t8 : L 8 = true → vals 8 = v2
  t10 : L 10 = true → vals 10 = .int .i64 rest
  t11 : L 11 = true → vals 11 = .int .i64 y
  t14 : L 14 = true → vals 14 = .int .i64 rest
  ra : L 3 = true → QRow w.heap.size wx (if L 6 then vals 6 else vals 3) (if L 6 then la ++ [x] else la)
  rb : L 9 = true → QRow w.heap.size wx (if L 13 then vals 13 else vals 9) (if L 13 then lb ++ [y] else lb)
  far : L 3 = true → L 9 = true → Far (if L 6 then vals 6 else vals 3) (if L 13 then vals 13 else vals 9)
  sa : L 5 = true → L 6 = false → ∃ g, vals 5 = .slice (some ⟨g, 0, none⟩) 1 1 ∧ Blk wx g [.int .i64 x] 3
  sb : L 12 = true → L 13 = false → ∃ g, vals 12 = .slice (some ⟨g, 0, none⟩) 1 1 ∧ Blk wx g [.int .i64 y] 3 ∧ (L 3 = true → (if L 6 then vals 6 else vals 3).ownBlock ≠ some g)
section
variable {w : World} {fv : Value} {rb : Nat} {v1 v2 : Value} {la lb : List Int} {b bd rest x y : Int} {vals : Nat → Value} {L : Nat → Bool} {wx w' : World} {v : Value}
theorem RB.start : RB w fv rb v1 v2 la lb b bd rest x y (fun _ => undef) (fun _ => false) w.drew := by
  constructor <;> first | exact (Below.refl _ _).drew | (intro h; cases h)
def RB.val (fv : Value) (rb : Nat) (v1 v2 : Value) (b _bd rest _x y : Int) : Nat → Value
  | 0 => fv
  | 1 => .pointer (some ⟨rb, 4, none⟩)
  | 2 => v1
  | 4 => .int .i64 b
  | 7 => .pointer (some ⟨rb, 5, none⟩)
  | 8 => v2
  | 10 => .int .i64 rest
  | 11 => .int .i64 y
  | 14 => .int .i64 rest
  | _ => undef
theorem RB.quiet (h : RB w fv rb v1 v2 la lb b bd rest x y vals L wx) (i : Nat) (hi : i = 0 ∨ i = 1 ∨ i = 2 ∨ i = 4 ∨ i = 7 ∨ i = 8 ∨ i = 10 ∨ i = 11 ∨ i = 14) : RB w fv rb v1 v2 la lb b bd rest x y (updN vals i (RB.val fv rb v1 v2 b bd rest x y i)) (updN L i true) wx := by
  obtain ⟨h0, t0, t1, t2, t4, t7, t8, t10, t11, t14, ra, rbb, far, sa, sb⟩ := h
  rcases hi with rfl | rfl | rfl | rfl | rfl | rfl | rfl | rfl | rfl <;> constructor <;> first | (simp [updN, RB.val]; done) | simpa [updN] using h0 | simpa [updN] using t0 | simpa [updN] using t1 | simpa [updN] using t2 | simpa [updN] using t4 | simpa [updN] using t7 | simpa [updN] using t8 | simpa [updN] using t10 | simpa [updN] using t11 | simpa [updN] using t14 | simpa [updN] using ra | simpa [updN] using rbb | simpa [updN] using far | simpa [updN] using sa | simpa [updN] using sb
theorem RB.callA (h : RB w fv rb v1 v2 la lb b bd rest x y vals L wx) (_hA : L 3 = false) (hAA : L 6 = false) (hB : L 9 = false) (_hBB : L 13 = false) (hb : Below wx.heap.size wx w') (hq : QRow wx.heap.size w' v la) : RB w fv rb v1 v2 la lb b bd rest x y (updN vals 3 v) (updN L 3 true) w' := by
  have hs := h.below.size
  constructor
  · exact bon h.below hb
  · simpa [updN] using h.t0
  · simpa [updN] using h.t1
  · simpa [updN] using h.t2
  · simpa [updN] using h.t4
  · simpa [updN] using h.t7
  · simpa [updN] using h.t8
  · simpa [updN] using h.t10
  · simpa [updN] using h.t11
  · simpa [updN] using h.t14
  · intro _; simpa [updN, hAA] using hq.mono hs
  · intro e; simp [updN, hB] at e
  · intro _ e; simp [updN, hB] at e
  · intro e1 e2; simp only [updN, Nat.reduceEqDiff, if_false] at e1 e2; obtain ⟨g, e, k⟩ := h.sa e1 e2; exact ⟨g, by simpa [updN] using e, k.below hb⟩
  · intro e1 e2; simp only [updN, Nat.reduceEqDiff, if_false] at e1 e2; obtain ⟨g, e, k, -⟩ := h.sb e1 e2; refine ⟨g, by simpa [updN] using e, k.below hb, fun _ e3 => ?_⟩; simp only [updN, Nat.reduceEqDiff, if_true, if_false, hAA] at e3; have := (hq.base e3).1; have := k.lt; omega
theorem RB.buildA (h : RB w fv rb v1 v2 la lb b bd rest x y vals L wx) (_hAA : L 6 = false) : RB w fv rb v1 v2 la lb b bd rest x y (updN vals 5 (.slice (some ⟨wx.heap.size, 0, none⟩) 1 1)) (updN L 5 true) (wx.alloc (.cells #[.int .i64 x] 3)) := by
  have hb := bal (Below.refl wx.heap.size wx) (.cells #[.int .i64 x] 3)
  constructor
  · exact bon h.below hb
  · simpa [updN] using h.t0
  · simpa [updN] using h.t1
  · simpa [updN] using h.t2
  · simpa [updN] using h.t4
  · simpa [updN] using h.t7
  · simpa [updN] using h.t8
  · simpa [updN] using h.t10
  · simpa [updN] using h.t11
  · simpa [updN] using h.t14
  · intro e; simpa [updN] using (h.ra (by simpa [updN] using e)).below hb
  · intro e; simpa [updN] using (h.rb (by simpa [updN] using e)).below hb
  · simpa [updN] using h.far
  · intro _ _; exact ⟨_, by simp [updN], Blk.new wx [.int .i64 x] _⟩
  · intro e1 e2; simp only [updN, Nat.reduceEqDiff, if_false] at e1 e2; obtain ⟨g, e, k, k2⟩ := h.sb e1 e2; exact ⟨g, by simpa [updN] using e, k.below hb, by simpa [updN] using k2⟩
theorem RB.appA (h : RB w fv rb v1 v2 la lb b bd rest x y vals L wx) (hA : L 3 = true) (hAA : L 6 = false) (hB : L 9 = false) (_hBB : L 13 = false) (hq : QRow w.heap.size w' v (la ++ [x])) (hg : wx.grownBy w' (vals 3).ownBlock) (ho : v.ownBlock = (vals 3).ownBlock ∨ v.ownBlock = some wx.heap.size) : RB w fv rb v1 v2 la lb b bd rest x y (updN vals 6 v) (updN L 6 true) w' := by
  have hra := h.ra hA
  simp only [hAA, Bool.false_eq_true, if_false] at hra
  have hbase := fun g e => hra.base (g := g) e
  constructor
  · exact h.below.trans (below_row hg h.below.size fun g e => (hbase g e).1)
  · simpa [updN] using h.t0
  · simpa [updN] using h.t1
  · simpa [updN] using h.t2
  · simpa [updN] using h.t4
  · simpa [updN] using h.t7
  · simpa [updN] using h.t8
  · simpa [updN] using h.t10
  · simpa [updN] using h.t11
  · simpa [updN] using h.t14
  · intro _; simpa [updN] using hq
  · intro e; simp [updN, hB] at e
  · intro _ e; simp [updN, hB] at e
  · intro _ e; simp [updN] at e
  · intro e1 e2; simp only [updN, Nat.reduceEqDiff, if_false] at e1 e2; obtain ⟨g, e, k, k2⟩ := h.sb e1 e2; have k3 := k2 hA; simp only [hAA, Bool.false_eq_true, if_false] at k3; refine ⟨g, by simpa [updN] using e, k.same (hg.block g k.lt fun e3 => k3 e3.symm), fun _ e3 => ?_⟩; simp only [updN, if_true] at e3; rcases ho with ho | ho; (rw [ho] at e3; exact k3 e3); (rw [ho] at e3; have := k.lt; have := Option.some.inj e3; omega)
theorem RB.callB (h : RB w fv rb v1 v2 la lb b bd rest x y vals L wx) (hA : L 3 = true) (hAA : L 6 = true) (_hB : L 9 = false) (hBB : L 13 = false) (hb : Below wx.heap.size wx w') (hq : QRow wx.heap.size w' v lb) : RB w fv rb v1 v2 la lb b bd rest x y (updN vals 9 v) (updN L 9 true) w' := by
  have hra := h.ra hA
  have hs := h.below.size
  simp only [hAA, if_true] at hra
  constructor
  · exact bon h.below hb
  · simpa [updN] using h.t0
  · simpa [updN] using h.t1
  · simpa [updN] using h.t2
  · simpa [updN] using h.t4
  · simpa [updN] using h.t7
  · simpa [updN] using h.t8
  · simpa [updN] using h.t10
  · simpa [updN] using h.t11
  · simpa [updN] using h.t14
  · intro _; simpa [updN, hAA] using hra.below hb
  · intro _; simpa [updN, hBB] using hq.mono hs
  · intro _ _ g e1 e2; simp only [updN, Nat.reduceEqDiff, if_true, if_false, hAA, hBB, Bool.false_eq_true] at e1 e2; have := (hra.base e1).2; have := (hq.base e2).1; omega
  · intro e1 e2; simp [updN, hAA] at e2
  · intro e1 e2; simp only [updN, Nat.reduceEqDiff, if_false] at e1 e2; obtain ⟨g, e, k, k2⟩ := h.sb e1 e2; exact ⟨g, by simpa [updN] using e, k.below hb, by simpa [updN] using k2⟩
theorem RB.buildB (h : RB w fv rb v1 v2 la lb b bd rest x y vals L wx) (_hBB : L 13 = false) : RB w fv rb v1 v2 la lb b bd rest x y (updN vals 12 (.slice (some ⟨wx.heap.size, 0, none⟩) 1 1)) (updN L 12 true) (wx.alloc (.cells #[.int .i64 y] 3)) := by
  have hb := bal (Below.refl wx.heap.size wx) (.cells #[.int .i64 y] 3)
  constructor
  · exact bon h.below hb
  · simpa [updN] using h.t0
  · simpa [updN] using h.t1
  · simpa [updN] using h.t2
  · simpa [updN] using h.t4
  · simpa [updN] using h.t7
  · simpa [updN] using h.t8
  · simpa [updN] using h.t10
  · simpa [updN] using h.t11
  · simpa [updN] using h.t14
  · intro e; simpa [updN] using (h.ra (by simpa [updN] using e)).below hb
  · intro e; simpa [updN] using (h.rb (by simpa [updN] using e)).below hb
  · simpa [updN] using h.far
  · intro e1 e2; simp only [updN, Nat.reduceEqDiff, if_false] at e1 e2; obtain ⟨g, e, k⟩ := h.sa e1 e2; exact ⟨g, by simpa [updN] using e, k.below hb⟩
  · intro _ _; refine ⟨_, by simp [updN], Blk.new wx [.int .i64 y] _, fun e e2 => ?_⟩; have e3 : L 3 = true := (by simpa [updN] using e); have hr := h.ra e3; have e4 : (if L 6 then vals 6 else vals 3).ownBlock = some wx.heap.size := (by simpa [updN] using e2); have := (hr.base e4).2; omega
theorem RB.appB (h : RB w fv rb v1 v2 la lb b bd rest x y vals L wx) (hA : L 3 = true) (hAA : L 6 = true) (hB : L 9 = true) (hBB : L 13 = false) (hq : QRow w.heap.size w' v (lb ++ [y])) (hg : wx.grownBy w' (vals 9).ownBlock) (ho : v.ownBlock = (vals 9).ownBlock ∨ v.ownBlock = some wx.heap.size) : RB w fv rb v1 v2 la lb b bd rest x y (updN vals 13 v) (updN L 13 true) w' := by
  have hra := h.ra hA
  have hrb := h.rb hB
  have hf := h.far hA hB
  simp only [hAA, hBB, Bool.false_eq_true, if_true, if_false] at hra hrb hf
  have hbase := fun g e => hrb.base (g := g) e
  constructor
  · exact h.below.trans (below_row hg h.below.size fun g e => (hbase g e).1)
  · simpa [updN] using h.t0
  · simpa [updN] using h.t1
  · simpa [updN] using h.t2
  · simpa [updN] using h.t4
  · simpa [updN] using h.t7
  · simpa [updN] using h.t8
  · simpa [updN] using h.t10
  · simpa [updN] using h.t11
  · simpa [updN] using h.t14
  · intro _; have := hra.kept (w' := w') (fun i _ hi hv => hg.block i hi fun e => hf i hv e.symm); simpa [updN, hAA] using this
  · intro _; simpa [updN] using hq
  · intro _ _ g e1 e2; simp only [updN, Nat.reduceEqDiff, if_true, if_false, hAA] at e1 e2; rcases ho with ho | ho; (rw [ho] at e2; exact hf g e1 e2); (rw [ho] at e2; have := (hra.base e1).2; have := Option.some.inj e2; omega)
  · intro _ e; simp [updN, hAA] at e
  · intro _ e; simp [updN] at e
def RB.J (w : World) (fv : Value) (rb : Nat) (v1 v2 : Value) (la lb : List Int) (b bd rest x y : Int) (Fin : World → Prop) (vals : Nat → Value) (L : Nat → Bool) (wx : World) : Prop := if L 15 then Fin wx else RB w fv rb v1 v2 la lb b bd rest x y vals L wx
variable {Fin : World → Prop} {i : Nat}
theorem RB.start0 : RB.J w fv rb v1 v2 la lb b bd rest x y Fin (fun _ => undef) (fun _ => false) w.drew := RB.start
theorem RB.J.out (hz : L 15 = false) (h : RB.J w fv rb v1 v2 la lb b bd rest x y Fin vals L wx) : RB w fv rb v1 v2 la lb b bd rest x y vals L wx := by unfold RB.J at h; rw [hz] at h; exact h
theorem RB.J.on (hz : L 15 = false) (hi : i ≠ 15) (h : RB w fv rb v1 v2 la lb b bd rest x y (updN vals i v) (updN L i true) wx) : RB.J w fv rb v1 v2 la lb b bd rest x y Fin (updN vals i v) (updN L i true) wx := by
  have e : updN L i true 15 = false := by simp only [updN]; rw [if_neg (Ne.symm hi)]; exact hz
  unfold RB.J; rw [e]; exact h
theorem RB.J.end (h : Fin wx) : RB.J w fv rb v1 v2 la lb b bd rest x y Fin (updN vals 15 v) (updN L 15 true) wx := by
  have e : updN L 15 true 15 = true := by simp [updN]
  unfold RB.J; rw [e]; exact h
theorem RB.J.fin (hz : L 15 = true) (h : RB.J w fv rb v1 v2 la lb b bd rest x y Fin vals L wx) : Fin wx := by unfold RB.J at h; rw [hz] at h; exact h
end
theorem infoC : (Tryz.prog.info? 25).map (fun i => (i.zero, i.size, i.bytes)) = some (some (.agg #[.slice none 0 0, .slice none 0 0, .int .i64 0]), 3, 56) := by kernel_rfl
section
variable {B ob n : Nat} {xs : List Value} {v : Value} {w w' W2 w3 : World} {L : List CQ}
theorem rowC_isC (h : w.ownsRow B 25 3 v n xs) : ∀ g, v.ownBlock = some g → B ≤ g ∧ isC w g := fun g e => by
  rcases h.2 with ⟨rfl, _⟩ | ⟨g', cap, cur, rfl, hb, hg, _⟩
  · cases e
  · have : g' = g := by simpa [Value.ownBlock] using e
    subst this
    exact ⟨hb, cur, (0, 0), .inr hg⟩
theorem CLim.grown (h : w.ownsRow B 25 3 v n xs) (hg : w.grownBy w' v.ownBlock) : CLim B w w' :=
  ⟨hg.os, hg.tape, hg.output, hg.size, fun i hi hn => hg.block i hi fun e => by
    obtain ⟨h1, h2⟩ := rowC_isC h i e.symm
    exact hn h1 h2⟩
theorem MineC.setOther {c : List Value} {T : TypeId} (h : MineC B v L w) (hb : Blk w ob c T) (h1 : T ≠ 25) (h2 : T ≠ 3) (u : Value) : MineC B v L (w.setCell ⟨ob, 0, none⟩ u) := by
  refine ⟨h.row.kept (grownBy_setCell' w ob u) (.inr fun e => ?_), fun q hq => ?_⟩
  · rcases h.row.2 with ⟨rfl, _⟩ | ⟨g, cap, cur, rfl, _, hg, _⟩
    · cases e
    · have : g = ob := by simpa [Value.ownBlock] using e
      subst this
      unfold Blk at hb
      rw [hg] at hb
      have := Option.some.inj hb
      injection this with _ h3 _
      exact h1 h3.symm
  · obtain ⟨q1, q2, q3⟩ := h.each q hq
    have k : ∀ (x : Value) (l : List Int), QRow B w x l → QRow B (w.setCell ⟨ob, 0, none⟩ u) x l := fun x l hx => hx.kept fun i _ _ hi => Below.heap_setCell _ _ _ _ fun e => hx.far hb h2 (show x.ownBlock = some ob by rw [hi]; exact congrArg some e)
    exact ⟨k _ _ q1, k _ _ q2, q3⟩
theorem outC_push {g cap : Nat} {q : CQ} {A : Nat → Prop} (hA : ∀ q ∈ L, ∀ g, (q.2.1.ownBlock = some g ∨ q.2.2.ownBlock = some g) → ¬ A g) (hAq : ∀ g, (q.2.1.ownBlock = some g ∨ q.2.2.ownBlock = some g) → ¬ A g) (hob : Blk W2 ob [v] 22) (hm : MineC B v L W2) (hB : B ≤ ob)
    (hq : QRow B W2 q.2.1 q.1.lits ∧ QRow B W2 q.2.2 q.1.coefs ∧ InI q.1.bound ∧ q.1.lits.length ≤ 65536 ∧ q.1.coefs.length ≤ 65536)
    (hown : w3.ownsRow B 25 3 (.slice (some ⟨g, 0, none⟩) (L.length + 1) cap) (L.length + 1) (L.flatMap cells3 ++ cells3 q)) (hg : W2.grownBy w3 v.ownBlock) :
    Blk w3 ob [v] 22 ∧ OutC B ob A (L.map (·.1) ++ [q.1]) (w3.setCell ⟨ob, 0, none⟩ (.slice (some ⟨g, 0, none⟩) (L.length + 1) cap)) ∧ CLim B W2 (w3.setCell ⟨ob, 0, none⟩ (.slice (some ⟨g, 0, none⟩) (L.length + 1) cap)) := by
  have h3 : Blk w3 ob [v] 22 := hob.same (hg.block ob hob.lt fun e => by
    rcases hm.row.2 with ⟨rfl, _⟩ | ⟨g', cap', cur, rfl, _, hgg, _⟩
    · cases e
    · have : g' = ob := by simpa [Value.ownBlock] using e.symm
      subst this
      unfold Blk at hob
      rw [hgg] at hob
      have := Option.some.inj hob
      injection this with _ h3 _
      revert h3; decide)
  have hp := hm.push hq hown hg
  refine ⟨h3, ⟨_, L ++ [q], h3.set 0 _, hp.setOther h3 (by decide) (by decide) _, by simp, fun q' hq' => by
    rcases List.mem_append.1 hq' with hq' | hq'
    · exact hA q' hq'
    · obtain rfl : q' = q := by simpa using hq'
      exact hAq⟩, (CLim.grown hm.row hg).trans ?_⟩
  exact ⟨rfl, rfl, rfl, by simp [World.setCell], fun i hi hn => Below.heap_setCell _ _ _ _ fun e => by
    subst e
    exact hn hB ⟨_, _, .inl h3⟩⟩
end
set_option maxHeartbeats 4000000 in
set_option maxRecDepth 100000 in
theorem cput_any {B ob : Nat} {A : Nat → Prop} (vl vk : Value) (l k : List Int) (bd : Int) (lst : List PBC) (w : World) (hl : Ints w vl l) (hk : Ints w vk k) (hbd : InI bd) (ho : OutC B ob A lst w) (hAw : ∀ g, A g → g < w.heap.size) (hB : B ≤ ob) (hlen : lst.length ≤ 1000000000) :
    Calls Tryz.prog 112 #[vl, vk, .int .i64 bd, .pointer (some ⟨ob, 0, none⟩)] w fun e w' => e = .returned (.tuple #[]) ∧ OutC B ob A (lst ++ [(normP l k bd).1]) w' ∧ CLim B w w' := by
  obtain ⟨i0, hi, hz0, hz1, hz2⟩ := info_parts infoC
  obtain ⟨v, L, hob, hm, rfl, ha⟩ := ho
  have HA := Lib.hid ha
  have HAW := Lib.hid hAw
  clear ha hAw
  rw [List.length_map] at hlen
  obtain ⟨av, nv, cv, rfl⟩ : ∃ a n c, v = .slice a n c := by
    rcases hm.row.2 with ⟨rfl, _⟩ | ⟨g, cap, cur, rfl, _⟩ <;> exact ⟨_, _, _, rfl⟩
  obtain ⟨a1, c1, rfl, -⟩ := hl.form
  obtain ⟨a2, c2, rfl, -⟩ := hk.form
  have HL := Lib.hid hl
  have HK := Lib.hid hk
  have HBD := Lib.hid hbd
  have HO := Lib.hid hob
  have HM := Lib.hid hm
  have hlob := hob.lt
  obtain ⟨⟨c, er⟩, hc⟩ : ∃ c, normP l k bd = c := ⟨_, rfl⟩
  rw [hc]
  have HC := Lib.hid hc
  clear hl hk hbd hob hm hc
  go_enter Tryz.func112, Tryz.ntmps112
  go_upto_region 1 with (go_at_call 44; (with_reducible refine (norm_any _ _ l k bd w HL.out HK.out HBD.out).mono ?_); rintro e w1 ⟨vp, e1, hq, hb1⟩; rw [HC.out] at e1 hq; subst e1; obtain ⟨vl, vk, rfl, hq1, hq2, hq3⟩ := hq; obtain ⟨al, cl, rfl⟩ := hq1.slen; obtain ⟨ak, ck, rfl⟩ := hq2.slen; have HAQ : Hid (∀ g, ((Value.slice al c.lits.length cl).ownBlock = some g ∨ (Value.slice ak c.coefs.length ck).ownBlock = some g) → ¬ A g) := Lib.hid (fun g e ha => by have h0 := HAW.out g ha; rcases e with e | e; (have := (hq1.base e).1; omega); (have := (hq2.base e).1; omega)); have HQA := Lib.hid (hq1.mono (Nat.le_trans hB (Nat.le_of_lt hlob))); have HQB := Lib.hid (hq2.mono (Nat.le_trans hB (Nat.le_of_lt hlob))); have HQC := Lib.hid hq3; have HB1 := Lib.hid hb1; clear hq1 hq2 hq3 hb1)
  have hal1 := bal (Below.refl w1.heap.size w1) (.cells #[.slice al c.lits.length cl, .slice ak c.coefs.length ck, .int .i64 c.bound] 25)
  have kc1 := (Blk.new w1 [.slice al c.lits.length cl, .slice ak c.coefs.length ck, .int .i64 c.bound] 25).cell
  have HB01 := Lib.hid (bon HB1.out hal1)
  have HQ1 : Hid (QRow B (w1.alloc (.cells #[.slice al c.lits.length cl, .slice ak c.coefs.length ck, .int .i64 c.bound] 25)) (.slice al c.lits.length cl) c.lits ∧ QRow B (w1.alloc (.cells #[.slice al c.lits.length cl, .slice ak c.coefs.length ck, .int .i64 c.bound] 25)) (.slice ak c.coefs.length ck) c.coefs) := Lib.hid ⟨HQA.out.below hal1, HQB.out.below hal1⟩
  clear hal1
  generalize w1.alloc (.cells #[.slice al c.lits.length cl, .slice ak c.coefs.length ck, .int .i64 c.bound] 25) = W1 at *
  have ko1 := (HO.out.below HB01.out).cell 0
  have hal2 := bal (Below.refl W1.heap.size W1) (.cells #[.slice al c.lits.length cl, .slice ak c.coefs.length ck, .int .i64 c.bound] 25)
  have HB02 := Lib.hid (bon HB01.out hal2)
  have HO2 := Lib.hid (HO.out.below HB02.out)
  have HM2 := Lib.hid (HM.out.below HB02.out)
  have HQ2 := Lib.hid (And.intro (HQ1.out.1.below hal2) (And.intro (HQ1.out.2.below hal2) HQC.out))
  have hnw := Blk.new W1 [.slice al c.lits.length cl, .slice ak c.coefs.length ck, .int .i64 c.bound] 25
  have HNW : Hid (∀ j u, [Value.slice al c.lits.length cl, .slice ak c.coefs.length ck, .int .i64 c.bound][j]? = some u → (W1.alloc (.cells #[.slice al c.lits.length cl, .slice ak c.coefs.length ck, .int .i64 c.bound] 25)).cell? ((⟨W1.heap.size, 0, none⟩ : Addr).add j) = some u) := Lib.hid (fun j u hu => by rw [Addr.add_lit, Nat.zero_add]; exact (hnw.cell j).trans hu)
  have HONE : Hid (∀ u ∈ [Value.slice al c.lits.length cl, .slice ak c.coefs.length ck, .int .i64 c.bound], u.oneCell' = true) := Lib.hid (fun u hu => by simp only [List.mem_cons, List.not_mem_nil, or_false] at hu; rcases hu with rfl | rfl | rfl <;> rfl)
  have hob1 : ob < W1.heap.size := (HO.out.below HB01.out).lt
  have hBW := HB01.out.size
  clear hal2 hnw
  go_wp2_with (at_builtin; go_must (refine wpList_append_own _ rfl _ _ 22 rfl B 25 i0 _ 3 56 Tryz.underlying22 hi hz0 hz1 hz2 rfl (by decide) _ L.length (L.flatMap cells3) rfl HM2.out.row ⟨W1.heap.size, 0, none⟩ 1 1 _ rfl rfl HNW.out HONE.out (by unfold maxLen; omega) (by omega) (by simp; omega) ?_); intro v' w3 hown hgrow _; obtain ⟨g', cap', rfl⟩ := ownsRow_succ hown; obtain ⟨hp1, hp2, hp3⟩ := outC_push (q := (c, .slice al c.lits.length cl, .slice ak c.coefs.length ck)) HA.out HAQ.out HO2.out HM2.out hB HQ2.out hown hgrow; have kp3 := hp1.cell 0; have kf3 := hp1.free 0; have HP2 := Lib.hid hp2; have HP3 := Lib.hid hp3; clear hown hgrow hp1 hp2 hp3)
  go_end0
  exact ⟨rfl, HP2.out, (CLim.of_below HB02.out).trans HP3.out⟩
set_option maxHeartbeats 4000000 in
set_option maxRecDepth 100000 in
theorem cclause_any {B ob : Nat} {A : Nat → Prop} (vl : Value) (l : List Int) (lst : List PBC) (w : World) (hl : Ints w vl l) (ho : OutC B ob A lst w) (hAw : ∀ g, A g → g < w.heap.size) (hB : B ≤ ob) (hlen : lst.length ≤ 1000000000) :
    Calls Tryz.prog 113 #[vl, .pointer (some ⟨ob, 0, none⟩)] w fun e w' => e = .returned (.tuple #[]) ∧ OutC B ob A (lst ++ [(clauseP l).1]) w' ∧ CLim B w w' := by
  obtain ⟨i0, hi, hz0, hz1, hz2⟩ := info_parts infoC
  obtain ⟨v, L, hob, hm, rfl, ha⟩ := ho
  have HA := Lib.hid ha
  have HAW := Lib.hid hAw
  clear ha hAw
  rw [List.length_map] at hlen
  obtain ⟨av, nv, cv, rfl⟩ : ∃ a n c, v = .slice a n c := by
    rcases hm.row.2 with ⟨rfl, _⟩ | ⟨g, cap, cur, rfl, _⟩ <;> exact ⟨_, _, _, rfl⟩
  obtain ⟨a1, c1, rfl, -⟩ := hl.form
  have HL := Lib.hid hl
  have HO := Lib.hid hob
  have HM := Lib.hid hm
  have hlob := hob.lt
  obtain ⟨⟨c, er⟩, hc⟩ : ∃ c, clauseP l = c := ⟨_, rfl⟩
  rw [hc]
  have HC := Lib.hid hc
  clear hl hob hm hc
  go_enter Tryz.func113, Tryz.ntmps113
  go_upto_region 1 with (go_at_call 43; (with_reducible refine (clause_any _ l w HL.out).mono ?_); rintro e w1 ⟨vp, e1, hq, hb1⟩; rw [HC.out] at e1 hq; subst e1; obtain ⟨vl, vk, rfl, hq1, hq2, hq3⟩ := hq; obtain ⟨al, cl, rfl⟩ := hq1.slen; obtain ⟨ak, ck, rfl⟩ := hq2.slen; have HAQ : Hid (∀ g, ((Value.slice al c.lits.length cl).ownBlock = some g ∨ (Value.slice ak c.coefs.length ck).ownBlock = some g) → ¬ A g) := Lib.hid (fun g e ha => by have h0 := HAW.out g ha; rcases e with e | e; (have := (hq1.base e).1; omega); (have := (hq2.base e).1; omega)); have HQA := Lib.hid (hq1.mono (Nat.le_trans hB (Nat.le_of_lt hlob))); have HQB := Lib.hid (hq2.mono (Nat.le_trans hB (Nat.le_of_lt hlob))); have HQC := Lib.hid hq3; have HB1 := Lib.hid hb1; clear hq1 hq2 hq3 hb1)
  have hal1 := bal (Below.refl w1.heap.size w1) (.cells #[.slice al c.lits.length cl, .slice ak c.coefs.length ck, .int .i64 c.bound] 25)
  have kc1 := (Blk.new w1 [.slice al c.lits.length cl, .slice ak c.coefs.length ck, .int .i64 c.bound] 25).cell
  have HB01 := Lib.hid (bon HB1.out hal1)
  have HQ1 : Hid (QRow B (w1.alloc (.cells #[.slice al c.lits.length cl, .slice ak c.coefs.length ck, .int .i64 c.bound] 25)) (.slice al c.lits.length cl) c.lits ∧ QRow B (w1.alloc (.cells #[.slice al c.lits.length cl, .slice ak c.coefs.length ck, .int .i64 c.bound] 25)) (.slice ak c.coefs.length ck) c.coefs) := Lib.hid ⟨HQA.out.below hal1, HQB.out.below hal1⟩
  clear hal1
  generalize w1.alloc (.cells #[.slice al c.lits.length cl, .slice ak c.coefs.length ck, .int .i64 c.bound] 25) = W1 at *
  have ko1 := (HO.out.below HB01.out).cell 0
  have hal2 := bal (Below.refl W1.heap.size W1) (.cells #[.slice al c.lits.length cl, .slice ak c.coefs.length ck, .int .i64 c.bound] 25)
  have HB02 := Lib.hid (bon HB01.out hal2)
  have HO2 := Lib.hid (HO.out.below HB02.out)
  have HM2 := Lib.hid (HM.out.below HB02.out)
  have HQ2 := Lib.hid (And.intro (HQ1.out.1.below hal2) (And.intro (HQ1.out.2.below hal2) HQC.out))
  have hnw := Blk.new W1 [.slice al c.lits.length cl, .slice ak c.coefs.length ck, .int .i64 c.bound] 25
  have HNW : Hid (∀ j u, [Value.slice al c.lits.length cl, .slice ak c.coefs.length ck, .int .i64 c.bound][j]? = some u → (W1.alloc (.cells #[.slice al c.lits.length cl, .slice ak c.coefs.length ck, .int .i64 c.bound] 25)).cell? ((⟨W1.heap.size, 0, none⟩ : Addr).add j) = some u) := Lib.hid (fun j u hu => by rw [Addr.add_lit, Nat.zero_add]; exact (hnw.cell j).trans hu)
  have HONE : Hid (∀ u ∈ [Value.slice al c.lits.length cl, .slice ak c.coefs.length ck, .int .i64 c.bound], u.oneCell' = true) := Lib.hid (fun u hu => by simp only [List.mem_cons, List.not_mem_nil, or_false] at hu; rcases hu with rfl | rfl | rfl <;> rfl)
  have hob1 : ob < W1.heap.size := (HO.out.below HB01.out).lt
  have hBW := HB01.out.size
  clear hal2 hnw
  go_wp2_with (at_builtin; go_must (refine wpList_append_own _ rfl _ _ 22 rfl B 25 i0 _ 3 56 Tryz.underlying22 hi hz0 hz1 hz2 rfl (by decide) _ L.length (L.flatMap cells3) rfl HM2.out.row ⟨W1.heap.size, 0, none⟩ 1 1 _ rfl rfl HNW.out HONE.out (by unfold maxLen; omega) (by omega) (by simp; omega) ?_); intro v' w3 hown hgrow _; obtain ⟨g', cap', rfl⟩ := ownsRow_succ hown; obtain ⟨hp1, hp2, hp3⟩ := outC_push (q := (c, .slice al c.lits.length cl, .slice ak c.coefs.length ck)) HA.out HAQ.out HO2.out HM2.out hB HQ2.out hown hgrow; have kp3 := hp1.cell 0; have kf3 := hp1.free 0; have HP2 := Lib.hid hp2; have HP3 := Lib.hid hp3; clear hown hgrow hp1 hp2 hp3)
  go_end0
  exact ⟨rfl, HP2.out, (CLim.of_below HB02.out).trans HP3.out⟩
def negCells (l : List Int) (k : Nat) : List Value := (List.range l.length).map fun j => .int .i64 (if j < k then -(ix l j) else 0)
theorem negCells_set {l : List Int} {k : Nat} (hk : k < l.length) : (negCells l k).set k (.int .i64 (-(ix l k))) = negCells l (k + 1) := by
  unfold negCells
  refine List.ext_getElem? fun i => ?_
  by_cases hi : i < l.length
  · by_cases e : i = k
    · subst e
      rw [List.getElem?_set_self (by simpa using hi)]
      simp [hi]
    · rw [List.getElem?_set_ne (Ne.symm e)]
      simp only [List.getElem?_map, List.getElem?_range hi, Option.map_some]
      by_cases h1 : i < k
      · rw [if_pos h1, if_pos (by omega)]
      · rw [if_neg h1, if_neg (by omega)]
  · rw [List.getElem?_eq_none (by simp; omega), List.getElem?_eq_none (by simp; omega)]
theorem negCells_zero (l : List Int) : negCells l 0 = List.replicate l.length (.int .i64 0) := by
  unfold negCells
  rw [List.eq_replicate_iff]
  exact ⟨by simp, fun x hx => by obtain ⟨j, -, rfl⟩ := List.mem_map.1 hx; rfl⟩
theorem negCells_all (l : List Int) : negCells l l.length = (negL l).map (Value.int .i64) := by
  unfold negCells negL
  refine List.ext_getElem? fun i => ?_
  by_cases hi : i < l.length
  · simp only [List.getElem?_map, List.getElem?_range hi, Option.map_some, if_pos hi, List.getElem?_eq_getElem hi]
    rw [ix_get hi]
  · rw [List.getElem?_eq_none (by simp; omega), List.getElem?_eq_none (by simp; omega)]
def NegRel (W : World) (l : List Int) (i : Value) (wx : World) : Prop := ∃ k : Nat, k ≤ l.length ∧ i = .int .i64 k ∧ Below W.heap.size W wx ∧ Blk wx W.heap.size (negCells l k) 3
set_option maxHeartbeats 4000000 in
set_option maxRecDepth 100000 in
theorem negated_any (v : Value) (l : List Int) (w : World) (h : Ints w v l) (hn : ∀ x ∈ l, -1000000 ≤ x ∧ x ≤ 1000000) :
    Calls Tryz.prog 114 #[v] w fun e w' => ∃ v', e = .returned v' ∧ QRow w.heap.size w' v' (negL l) ∧ Below w.heap.size w w' := by
  obtain ⟨a1, c1, rfl, -, hl1, -, hcell⟩ := h.form
  have h8 : l.length * 8 ≤ 140737488351232 := by obtain ⟨⟨_, _, _, _, _, h, _⟩, _⟩ := h; exact h
  have HC := Lib.hid hcell
  have HN := Lib.hid hn
  have hmk : ∀ w : World, (Instr.makeSlice 23 (.int .i64 (l.length : Int)) (.int .i64 (l.length : Int))).run Tryz.prog w = .ok (.slice (some ⟨w.heap.size, 0, none⟩) l.length l.length) (w.alloc (.cells (madeCells #[.int .i64 0] l.length) 3)) := fun w => run_make_row' _ _ _ _ Tryz.underlying23 infoI rfl .i64 .i64 l.length (by omega) (by omega) w
  have hst : Below w.heap.size w (w.alloc (.cells (madeCells #[.int .i64 0] l.length) 3)) ∧ Blk (w.alloc (.cells (madeCells #[.int .i64 0] l.length) 3)) w.heap.size (negCells l 0) 3 := by
    refine ⟨bal (Below.refl _ _) _, ?_⟩
    have := Blk.new w (List.replicate l.length (Value.int .i64 0)) 3
    rw [← made_row] at this
    rw [negCells_zero]
    exact this
  have HST := Lib.hid hst
  clear h hcell hn hst
  go_enter Tryz.func114, Tryz.ntmps114
  go_upto_region 3 with fail
  clear hmk
  go_loopw [11] (fun i wx => NegRel w l i wx) (fun i _ => l.length - (intOf i).toNat)
  case atStart => exact ⟨0, Nat.zero_le _, rfl, HST.out.1, HST.out.2⟩
  case round =>
    obtain ⟨k, hk, rfl, hb, hbl⟩ := hrel
    have HB := Lib.hid hb
    by_cases hlt : k < l.length
    · obtain ⟨b, off, rfl, hbw, hc⟩ := HC.out (by omega)
      have kl := (bcell hb _ _ hbw).trans (hc k hlt)
      have kc := hbl.cell k
      have kf := hbl.free k
      have hg : (negCells l k)[k]? = some (.int .i64 0) := by simp [negCells, hlt]
      rw [hg] at kc
      have hx := HN.out _ (ix_mem hlt)
      have HN1 := Lib.hid (show Below w.heap.size w (wr.setCell ⟨w.heap.size, k, none⟩ (.int .i64 (-(ix l k)))) from hb.setCell (p := ⟨w.heap.size, k, none⟩) (Nat.le_refl _) _)
      have hbs := hbl.set k (.int .i64 (-(ix l k)))
      rw [negCells_set hlt] at hbs
      have HN2 := Lib.hid hbs
      clear hb hbl hc hg hbs
      go_wp2
      first
        | (go_roundw
           case rel => (exact ⟨k + 1, hlt, by go_num, HN1.out, HN2.out⟩)
           case measure => (simp [intOf]; omega))
        | (refine ⟨?_, ?_⟩
           · (exact ⟨k + 1, hlt, by go_num, HN1.out, HN2.out⟩)
           · (simp [intOf]; omega))
    · obtain rfl : k = l.length := by omega
      have hq : QRow w.heap.size wr (.slice (some ⟨w.heap.size, 0, none⟩) l.length l.length) (negL l) := by
        rw [negCells_all] at hbl
        have hlen : (negL l).length = l.length := negL_len l
        refine ⟨fitI fun x hx => by unfold negL at hx; obtain ⟨y, hy, rfl⟩ := List.mem_map.1 hx; have := HN.out y hy; unfold InI; omega, .inr ⟨w.heap.size, 0, l.length, _, by rw [hlen], Nat.le_refl _, hbl, by omega, by unfold maxLen; omega, by simp [negL], fun i hi => ?_⟩⟩
        rw [Nat.zero_add, List.getElem?_toArray]
        exact map_ix _ i hi
      have HQ := Lib.hid hq
      clear hq hb hbl
      go_wp2
      go_ret
      exact ⟨_, rfl, HQ.out, HB.out⟩
def Enters (P : Program) (o : Oper) (a : Act) (w : World) : Prop := ∃ f args w', (execOp a.eval o).run P w = .ok (.enter f args) w'
def tailC (P : Program) (ops : Array Oper) (C' : World → Prop) (Q : Exit → Act → World → Prop) : List Oper → Act → World → Prop
  | [], a, w => Q .normal a w
  | o :: rest, a, w => Region.wanted o (yielded ops a.tmps) = true ∧ (tame o = true ∨ Enters P o a w) ∧ o.wp P a w (fun a' w' => C' w' ∧ tailC P ops C' Q rest a' w') (fun _ _ _ => False)
theorem wp_agreeC {P : Program} {ops : Array Oper} {o : Oper} (hs : ∀ cs b, o.op ≠ .select cs b) {a b : Act} (h : Agree ops o a b) {w : World} (ht : tame o = true ∨ Enters P o a w) {K : Act → World → Prop} {Q : Exit → Act → World → Prop} (hw : o.wp P a w K (fun _ _ _ => False)) :
    o.wp P b w (fun b' w' => ∃ v, b' = b.put o.dst v ∧ K (a.put o.dst v) w') Q := by
  rcases ht with ht | ⟨f, args, w', hr⟩
  · exact wp_agree hs ht h hw
  · unfold Oper.wp at *
    rw [← execOp_congr o hs h.eval]
    rw [hr] at hw ⊢
    rw [Oper.upon_enter] at hw ⊢
    refine Calls.mono hw fun e w2 he => ?_
    cases e with
    | returned v => exact ⟨v, rfl, he⟩
    | panicked c => exact he.elim
    | outgrown => obtain ⟨_, _, h⟩ := he; exact h.elim
section
variable {P : Program} {l : List Oper} {w0 : World} {Φ : Nat → List Value → Value → Nat → Nat → World → Prop} {ism : Nat → Bool} {D : Nat → Nat → Bool} {Q : Exit → Act → World → Prop} {E : Act → World → Prop} {Cl : Nat → World → Prop} {n : Nat} {a0 : Act}
theorem any_of_tailC (c : Chk l.toArray D) {C' : World → Prop} (hchain : ∀ j, n ≤ j → j + 1 < l.length → D (j + 1) j = true) :
    ∀ (fuel : Nat) (listed : Array Bool) (w : World) (vals v1 : Nat → Value) (j : Nat), listed.size = l.length → unl listed l.length ≤ fuel → n ≤ j → j ≤ l.length →
      (∀ k, k < l.length → listed.getD k false = true → ∀ i, i < l.length → D k i = true → listed.getD i false = true) →
      (∀ k, n ≤ k → k < l.length → (listed.getD k false = true ↔ k < j)) →
      (∀ k, k < n → listed.getD k false = false → ∀ w', C' w' → DetStep P l.toArray (opAt l k) (Afr l a0 v1 k) w' (v1 k)) →
      (∀ k, k < l.length → listed.getD k false = true → v1 k = vals k) → C' w → tailC P l.toArray C' Q (l.drop j) (Afr l a0 v1 j) w →
      wpAny P .any l.toArray Q fuel listed (fr l.toArray vals (fun j => listed.getD j false) a0 l.length) w := by
  intro fuel
  have hend : ∀ (listed : Array Bool) (w : World) (vals v1 : Nat → Value) (j : Nat), listed.size = l.length → n ≤ j → j ≤ l.length → (∀ k, n ≤ k → k < l.length → (listed.getD k false = true ↔ k < j)) →
      (∀ k, k < l.length → listed.getD k false = true → v1 k = vals k) → tailC P l.toArray C' Q (l.drop j) (Afr l a0 v1 j) w → Region.ready .any l.toArray listed = [] → Q .normal (fr l.toArray vals (fun j => listed.getD j false) a0 l.length) w := by
    intro listed w vals v1 j hsz hnj hjl hj hv ht hr
    have hall := all_listed c hsz hr
    have hjn : j = l.length := by
      rcases Nat.lt_or_ge j l.length with h | h
      · exact absurd ((hj j hnj h).1 (hall j h)) (by omega)
      · omega
    subst hjn
    rw [List.drop_length] at ht
    have e : fr l.toArray vals (fun j => listed.getD j false) a0 l.length = Afr l a0 v1 l.length := fr_congr _ (fun k hk => ⟨hall k hk, fun _ => (hv k hk (hall k hk)).symm⟩)
    rw [e]
    exact ht
  induction fuel with
  | zero =>
    intro listed w vals v1 j hsz hfuel hnj hjl hcl hj hlate hv hw ht
    have hr := ready_nil (l := l) hsz (unl_zero (listed := listed) l.length (by omega))
    exact ⟨hr, hend listed w vals v1 j hsz hnj hjl hj hv ht hr⟩
  | succ fuel ih =>
    intro listed w vals v1 j hsz hfuel hnj hjl hcl hj hlate hv hw ht
    refine ⟨hend listed w vals v1 j hsz hnj hjl hj hv ht, fun i hir => ?_⟩
    obtain ⟨h0, o, ho, hdep⟩ := mem_ready.1 hir
    have hil : i < l.length := by have := (Array.getElem?_eq_some_iff.1 ho).1; simpa using this
    have hlt : i < listed.size := by omega
    obtain rfl : o = opAt l i := by rw [opAt_eq hil] at ho; exact (Option.some.inj ho).symm
    have hiun : listed.getD i false = false := by simp [hlt] at h0 ⊢; exact h0
    have hdeps := deps_listed c hcl hil hdep
    have hno : ∀ k, k < l.length → listed.getD k false = true → D k i = false := fun k hk hlk => by
      cases hd : D k i with
      | false => rfl
      | true => rw [hcl k hk hlk i hil hd] at hiun; cases hiun
    have hfuel' : unl (listed.setIfInBounds i true) l.length ≤ fuel := by have := (unl_set hlt hiun l.length).2 hil; omega
    have hsel : ∀ cs b, (opAt l i).op ≠ .select cs b := fun cs b => c.sel i _ cs b (opAt_eq hil)
    have hag := agree_real (a0 := a0) (v1 := v1) (vals := vals) c hil hiun hdeps hno (fun k hk hlk => hv k (by omega) hlk)
    rcases Nat.lt_or_ge i n with hin | hin
    · -- late
      refine wpOp_of_det (opAt_eq hil) (((hlate i hin hiun) w hw).agree hsel hag) ?_
      rw [fr_step c hil hlt hiun hno]
      refine ih _ w _ v1 j (by simpa using hsz) hfuel' hnj hjl (closed_set hlt hcl hdeps) (fun k h1 h2 => ?_) (fun k h1 h2 => ?_) (fun k h1 h2 => ?_) hw ht
      · rw [getD_set hlt, if_neg (by omega)]; exact hj k h1 h2
      · rw [getD_set hlt] at h2
        split at h2
        · cases h2
        · exact hlate k h1 h2
      · rw [getD_set hlt] at h2
        by_cases hki : k = i
        · subst hki; rw [updN_same]
        · rw [if_neg hki] at h2; rw [updN_other _ _ hki]; exact hv k h1 h2
    · -- the next of the tail
      have hij : i = j := by
        have h1 : ¬ i < j := fun h => by rw [(hj i hin hil).2 h] at hiun; cases hiun
        rcases Nat.lt_or_ge j i with h2 | h2
        · exfalso
          have hji : ∀ d, j + 1 + d < l.length → D (j + 1 + d) j = true := fun d => by
            induction d with
            | zero => exact fun h => hchain j hnj h
            | succ d ihd => exact fun h => c.trans _ (j + 1 + d) _ (by simpa using h) (by simp; omega) (by simp; omega) (hchain (j + 1 + d) (by omega) (by omega)) (ihd (by omega))
          have hd := hji (i - (j + 1)) (by omega)
          rw [show j + 1 + (i - (j + 1)) = i by omega] at hd
          have := (hj j hnj (by omega)).1 (hdeps j (by omega) hd)
          omega
        · omega
      subst hij
      have hdrop : l.drop i = opAt l i :: l.drop (i + 1) := by
        rw [List.drop_eq_getElem_cons hil]
        simp [opAt, List.getD, hil]
      rw [hdrop] at ht
      obtain ⟨hwant, htame, hwp⟩ := ht
      have := wp_agreeC (Q := Q) hsel hag htame hwp
      unfold wpOp
      simp only [opAt_eq hil]
      rw [← hag.wanted, hwant, if_pos rfl]
      refine .inl (Oper.wp_mono (fun b' w' ⟨v, hb', hw', ht'⟩ => ?_) this)
      rw [hb', fr_step c hil hlt hiun hno]
      refine ih _ w' _ (updN v1 i v) (i + 1) (by simpa using hsz) hfuel' (by omega) (by omega) (closed_set hlt hcl hdeps) (fun k h1 h2 => ?_) (fun k h1 h2 => ?_) (fun k h1 h2 => ?_) hw' ?_
      · rw [getD_set hlt]
        by_cases hki : k = i
        · subst hki; simp
        · rw [if_neg hki, hj k h1 h2]; omega
      · rw [getD_set hlt, if_neg (by omega)] at h2
        have e : Afr l a0 (updN v1 i v) k = Afr l a0 v1 k := fr_congr k (fun m hm => ⟨rfl, fun _ => updN_other _ _ (by omega)⟩)
        rw [e, updN_other _ _ (by omega)]
        exact hlate k h1 h2
      · rw [getD_set hlt] at h2
        by_cases hki : k = i
        · subst hki; rw [updN_same, updN_same]
        · rw [if_neg hki] at h2; rw [updN_other _ _ hki, updN_other _ _ hki]; exact hv k h1 h2
      · rw [Afr_succ l a0 _ hil, updN_same]
        have e : Afr l a0 (updN v1 i v) i = Afr l a0 v1 i := fr_congr i (fun m hm => ⟨rfl, fun _ => updN_other _ _ (by omega)⟩)
        rw [e]
        exact ht'
theorem any_of_headC (c : Chk l.toArray D) (hn : n ≤ l.length) {C' : World → Prop} (hC : ∀ w, Below w0.heap.size w0 w → C' w) (hchain : ∀ j, n ≤ j → j + 1 < l.length → D (j + 1) j = true)
    (hlate : ∀ i, i < n → lateB l D n i = true → ism i = false)
    (hΦ : ∀ i args v lo hi w w', Φ i args v lo hi w → Below w.heap.size w w' → Φ i args v lo hi w')
    (hw : walkP P l.toArray w0 (fun i w => if lateB l D n i then C' w else Below w0.heap.size w0 w) Φ ism D (tailC P l.toArray C' Q (l.drop n)) (l.take n) 0 a0 [] []) :
    ∀ (fuel : Nat) (listed : Array Bool) (w : World) (vals : Nat → Value) (lo hi : Nat → Nat), listed.size = l.length → unl listed l.length ≤ fuel → Below w0.heap.size w0 w →
      (∀ k, k < l.length → listed.getD k false = true → ∀ i, i < l.length → D k i = true → listed.getD i false = true) →
      (∀ k, n ≤ k → k < l.length → listed.getD k false = false) →
      (∀ i, i < n → listed.getD i false = true → Good P l w0 (fun i w => if lateB l D n i then C' w else Below w0.heap.size w0 w) Φ ism a0 vals lo hi w i) →
      (∀ i j, i < n → j < n → listed.getD i false = true → listed.getD j false = true → ism i = true → ism j = true → i ≠ j → hi i ≤ lo j ∨ hi j ≤ lo i) →
      wpAny P .any l.toArray Q fuel listed (fr l.toArray vals (fun j => listed.getD j false) a0 l.length) w := by
  have hCl : ∀ i w, Below w0.heap.size w0 w → (fun i w => if lateB l D n i then C' w else Below w0.heap.size w0 w) i w := fun i w hb => by
    show (if lateB l D n i then C' w else _)
    split
    · exact hC w hb
    · exact hb
  intro fuel
  induction fuel with
  | zero =>
    intro listed w vals lo hi hsz hfuel hb hcl hnt hg hdj
    have hall := unl_zero (listed := listed) l.length (by omega)
    have hnl : n = l.length := by
      rcases Nat.lt_or_ge n l.length with h | h
      · exact absurd (hall n h) (by rw [hnt n (Nat.le_refl _) h]; exact Bool.false_ne_true)
      · omega
    obtain ⟨v1, lo1, hi1, w1, e1, b1, c1, g1, d1, walk⟩ := complete hn hCl c hΦ hw hb (fun i h1 h2 j h3 h4 => hcl i (by omega) h2 j (by omega) h4) hg hdj n (Nat.le_refl _)
    have ee : ∀ j, j < n → v1 j = vals j ∧ lo1 j = lo j ∧ hi1 j = hi j := fun j hj => e1 j (hall j (by omega))
    rw [show (l.take n).drop n = [] by simp, facts_congr n ee, ints_congr n (fun j hj => (ee j hj).2)] at walk
    have ht := walk w hb (fun p hp => by
      obtain ⟨j, h1, h2, rfl⟩ := mem_facts _ p hp
      have := hg j h1 (hall j (by omega))
      unfold Good at this
      rw [if_pos h2] at this
      exact this.1) (fun q hq => by
      obtain ⟨j, h1, h2, rfl⟩ := mem_ints _ q hq
      have := hg j h1 (hall j (by omega))
      unfold Good at this
      rw [if_pos h2] at this
      exact this.2.2.2) (ints_pair _ (fun i j h1 h2 => hdj i j h1 h2 (hall i (by omega)) (hall j (by omega))))
    exact any_of_tailC c hchain 0 listed w vals v1 n hsz hfuel (Nat.le_refl _) hn hcl (fun k h1 h2 => by omega) (fun k h1 h2 => by rw [hall k (by omega)] at h2; cases h2) (fun k h1 _ => (ee k (by omega)).1) (hC w hb) ht
  | succ fuel ih =>
    intro listed w vals lo hi hsz hfuel hb hcl hnt hg hdj
    by_cases hfull : ∀ k, k < n → lateB l D n k = false → listed.getD k false = true
    · obtain ⟨v1, lo1, hi1, w1, e1, b1, c1, g1, d1, walk⟩ := complete hn hCl c hΦ hw hb (fun i h1 h2 j h3 h4 => hcl i (by omega) h2 j (by omega) h4) hg hdj n (Nat.le_refl _)
      have hmem : ∀ j, j < n → ism j = true → listed.getD j false = true := fun j hj hm => hfull j hj (by
        cases h : lateB l D n j with
        | false => rfl
        | true => rw [hlate j hj h] at hm; cases hm)
      have good : ∀ j, j < n → ism j = true → Φ j (argsOf (opAt l j) (Afr l a0 v1 j)) (v1 j) (lo1 j) (hi1 j) w ∧ hi1 j ≤ w.heap.size := fun j hj hm => by
        have hlj := hmem j hj hm
        have := Good.congr (vals' := v1) (lo' := lo1) (hi1' := hi1) c (by omega) (fun k hkl hk => (e1 k (hcl j (by omega) hlj k hkl hk)).1.symm) (e1 j hlj).1.symm (e1 j hlj).2.1.symm (e1 j hlj).2.2.symm (hg j hj hlj)
        unfold Good at this
        rw [if_pos hm] at this
        exact ⟨this.1, this.2.2.2⟩
      rw [show (l.take n).drop n = [] by simp] at walk
      have ht := walk w hb (fun p hp => by
        obtain ⟨j, h1, h2, rfl⟩ := mem_facts _ p hp
        exact (good j h1 h2).1) (fun q hq => by
        obtain ⟨j, h1, h2, rfl⟩ := mem_ints _ q hq
        exact (good j h1 h2).2) (ints_pair _ (fun i j h1 h2 m1 m2 hne => d1 i j h1 h2 (.inl (hmem i h1 m1)) (.inl (hmem j h2 m2)) m1 m2 hne))
      refine any_of_tailC c hchain (fuel + 1) listed w vals v1 n hsz hfuel (Nat.le_refl _) hn hcl (fun k h1 h2 => ?_) (fun k h1 h2 => ?_) (fun k h1 h2 => (e1 k h2).1) (hC w hb) ht
      · rw [hnt k h1 h2]; simp; omega
      · have hl : lateB l D n k = true := by
          cases h : lateB l D n k with
          | true => rfl
          | false => rw [hfull k h1 h] at h2; cases h2
        have := g1 k h1 (.inr h1)
        unfold Good at this
        rw [if_neg (by rw [hlate k h1 hl]; exact Bool.false_ne_true)] at this
        intro w' hw'
        exact this w' (by show (if lateB l D n k then _ else _); rw [if_pos hl]; exact hw')
    · refine ⟨fun hr => absurd (fun k hk _ => all_listed c hsz hr k (by omega)) hfull, fun i hir => ?_⟩
      obtain ⟨h0, o, ho, hdep⟩ := mem_ready.1 hir
      have hil : i < l.length := by have := (Array.getElem?_eq_some_iff.1 ho).1; simpa using this
      have hlt : i < listed.size := by omega
      obtain rfl : o = opAt l i := by rw [opAt_eq hil] at ho; exact (Option.some.inj ho).symm
      have hiun : listed.getD i false = false := by simp [hlt] at h0 ⊢; exact h0
      have hdeps := deps_listed c hcl hil hdep
      have hin : i < n := by
        rcases Nat.lt_or_ge i n with h | h
        · exact h
        · exfalso
          have hni : i = n := by
            rcases Nat.lt_or_ge n i with h2 | h2
            · exfalso
              have hji : ∀ d, n + 1 + d < l.length → D (n + 1 + d) n = true := fun d => by
                induction d with
                | zero => exact fun h => hchain n (Nat.le_refl _) h
                | succ d ihd => exact fun h => c.trans _ (n + 1 + d) _ (by simpa using h) (by simp; omega) (by simp; omega) (hchain (n + 1 + d) (by omega) (by omega)) (ihd (by omega))
              have hd := hji (i - (n + 1)) (by omega)
              rw [show n + 1 + (i - (n + 1)) = i by omega] at hd
              have := hdeps n (by omega) hd
              rw [hnt n (Nat.le_refl _) (by omega)] at this
              cases this
            · omega
          subst hni
          refine hfull fun k hk hl => hdeps k (by omega) ?_
          unfold lateB at hl
          simp only [Bool.and_eq_false_iff, decide_eq_false_iff_not, Bool.not_eq_false'] at hl
          exact hl.resolve_left (by omega)
      have hno : ∀ k, k < l.length → listed.getD k false = true → D k i = false := fun k hk hlk => by
        cases hd : D k i with
        | false => rfl
        | true => rw [hcl k hk hlk i hil hd] at hiun; cases hiun
      obtain ⟨v1, lo1, hi1, w1, e1, b1, c1, g1, d1, walk⟩ := complete hn hCl c hΦ hw hb (fun i h1 h2 j h3 h4 => hcl i (by omega) h2 j (by omega) h4) hg hdj i (by omega)
      have hdrop : (l.take n).drop i = opAt l i :: (l.take n).drop (i + 1) := by
        rw [List.drop_eq_getElem_cons (by simp; omega)]
        simp [opAt, List.getD, hil]
      rw [hdrop] at walk
      unfold walkP at walk
      have hag := agree_real (a0 := a0) (v1 := v1) (vals := vals) c hil hiun hdeps hno (fun k hk hlk => (e1 k hlk).1)
      have hsel : ∀ cs b, (opAt l i).op ≠ .select cs b := fun cs b => c.sel i _ cs b (opAt_eq hil)
      have hcl' := closed_set hlt hcl hdeps
      have hfuel' : unl (listed.setIfInBounds i true) l.length ≤ fuel := by have := (unl_set hlt hiun l.length).2 hil; omega
      have hnt' : ∀ k, n ≤ k → k < l.length → (listed.setIfInBounds i true).getD k false = false := fun k h1 h2 => by
        rw [getD_set hlt, if_neg (by omega)]; exact hnt k h1 h2
      by_cases hm : ism i = true
      · rw [if_pos hm] at walk
        obtain ⟨hstep, _⟩ := walk
        have hst := hstep w hb (fun p hp hd => by
          obtain ⟨j, h1, h2, rfl⟩ := mem_facts i p hp
          have hlj := hdeps j (by omega) hd
          have := Good.congr (vals' := v1) (lo' := lo1) (hi1' := hi1) c (by omega) (fun k hkl hk => (e1 k (hcl j (by omega) hlj k hkl hk)).1.symm) (e1 j hlj).1.symm (e1 j hlj).2.1.symm (e1 j hlj).2.2.symm (hg j (by omega) hlj)
          unfold Good at this
          rw [if_pos h2] at this
          exact this.1)
        refine wpOp_of_mem (opAt_eq hil) (hst.agree hsel hag) fun v w' ⟨hb', hφ⟩ => ?_
        rw [fr_step c hil hlt hiun hno]
        refine ih _ w' (updN vals i v) (updN lo i w.heap.size) (updN hi i w'.heap.size) (by simpa using hsz) hfuel' (hb.trans (hb'.mono hb.size)) hcl' hnt' (fun j hj hlj => ?_) (fun j k hj hk hlj hlk mj mk hne => ?_)
        · rw [getD_set hlt] at hlj
          by_cases hji : j = i
          · subst hji
            unfold Good
            rw [if_pos hm, updN_same, updN_same, updN_same]
            refine ⟨?_, hb.size, hb'.size, Nat.le_refl _⟩
            have : Agree l.toArray (opAt l j) (Afr l a0 v1 j) (Afr l a0 (updN vals j v) j) := agree_vals c hil (fun k hk hd => by
              rw [updN_other _ _ (by have := c.lt j k (by simpa using hil) (by simpa using hk) hd; omega)]
              exact (e1 k (hdeps k hk hd)).1)
            rw [← this.args]
            exact hφ
          · rw [if_neg hji] at hlj
            exact Good.congr c (by omega) (fun k hk hd => (updN_other _ _ (by rintro rfl; rw [hno j (by omega) hlj] at hd; cases hd)).symm) (updN_other _ _ hji).symm (updN_other _ _ hji).symm (updN_other _ _ hji).symm ((hg j hj hlj).later hΦ hb')
        · rw [getD_set hlt] at hlj hlk
          have hle : ∀ j, j < n → listed.getD j false = true → ism j = true → hi j ≤ w.heap.size := fun j h1 h2 h3 => by
            have := hg j h1 h2
            unfold Good at this
            rw [if_pos h3] at this
            exact this.2.2.2
          by_cases hji : j = i
          · subst hji
            have hkj : k ≠ j := fun e => hne e.symm
            rw [if_neg hkj] at hlk
            rw [updN_same, updN_same, updN_other _ _ hkj, updN_other _ _ hkj]
            exact .inr (hle k hk hlk mk)
          · rw [if_neg hji] at hlj
            by_cases hki : k = i
            · subst hki
              rw [updN_same, updN_same, updN_other _ _ hji, updN_other _ _ hji]
              exact .inl (hle j hj hlj mj)
            · rw [if_neg hki] at hlk
              rw [updN_other _ _ hji, updN_other _ _ hji, updN_other _ _ hki, updN_other _ _ hki]
              exact hdj j k hj hk hlj hlk mj mk hne
      · rw [if_neg hm] at walk
        obtain ⟨v, hdet, _⟩ := walk
        refine wpOp_of_det (opAt_eq hil) ((hdet w (hCl i w hb)).agree hsel hag) ?_
        rw [fr_step c hil hlt hiun hno]
        refine ih _ w (updN vals i v) lo hi (by simpa using hsz) hfuel' hb hcl' hnt' (fun j hj hlj => ?_) (fun j k hj hk hlj hlk mj mk hne => ?_)
        · rw [getD_set hlt] at hlj
          by_cases hji : j = i
          · subst hji
            unfold Good
            rw [if_neg hm, updN_same]
            have : Agree l.toArray (opAt l j) (Afr l a0 v1 j) (Afr l a0 (updN vals j v) j) := agree_vals c hil (fun k hk hd => by
              rw [updN_other _ _ (by have := c.lt j k (by simpa using hil) (by simpa using hk) hd; omega)]
              exact (e1 k (hdeps k hk hd)).1)
            exact fun w' hw' => (hdet w' hw').agree hsel this
          · rw [if_neg hji] at hlj
            exact Good.congr c (by omega) (fun k hk hd => (updN_other _ _ (by rintro rfl; rw [hno j (by omega) hlj] at hd; cases hd)).symm) (updN_other _ _ hji).symm rfl rfl (hg j hj hlj)
        · rw [getD_set hlt] at hlj hlk
          have hji : j ≠ i := by rintro rfl; exact hm mj
          have hki : k ≠ i := by rintro rfl; exact hm mk
          rw [if_neg hji] at hlj
          rw [if_neg hki] at hlk
          exact hdj j k hj hk hlj hlk mj mk hne
theorem any_tailC {a : Act} {w : World} (m : List Nat) (n : Nat) (C' : World → Prop) (Φ : Nat → List Value → Value → Nat → Nat → World → Prop) (ism : Nat → Bool) (hB : chk l.toArray m = true) (hT : chkTail l m n ism = true)
    (hC : ∀ w', Below w.heap.size w w' → C' w')
    (hΦ : ∀ i args v lo hi w w', Φ i args v lo hi w → Below w.heap.size w w' → Φ i args v lo hi w')
    (h : walkP P l.toArray w (fun i w' => if lateB l (dm m) n i then C' w' else Below w.heap.size w w') Φ ism (dm m) (tailC P l.toArray C' Q (l.drop n)) (l.take n) 0 a [] []) : wpAny P .any l.toArray Q l.toArray.size (Array.replicate l.toArray.size false) a { w with drawn := w.drawn + 1 } := by
  unfold chkTail at hT
  simp only [Bool.and_eq_true, decide_eq_true_eq, List.all_eq_true, List.mem_range, Bool.or_eq_true, Bool.not_eq_true'] at hT
  obtain ⟨⟨hn, h1⟩, h2⟩ := hT
  have hun : ∀ k, unl (Array.replicate l.toArray.size false) k ≤ k := fun k => by
    induction k with
    | zero => exact Nat.le_refl _
    | succ k ih => unfold unl; split <;> omega
  have hf : ∀ j, (Array.replicate l.toArray.size false).getD j false = false := fun j => by
    simp only [Array.getD_eq_getD_getElem?, Array.getElem?_replicate]
    split <;> simp
  have := any_of_headC (Q := Q) (a0 := a) (w0 := w) (ism := ism) (chk_spec hB) hn hC (fun j hj hj2 => by
    rcases h1 j (by omega) with (h3 | h3) | h3
    · omega
    · omega
    · exact h3) (fun i hi hl => by
    rcases h2 i hi with h3 | h3
    · rw [hl] at h3; cases h3
    · exact h3) hΦ h l.toArray.size (Array.replicate l.toArray.size false) { w with drawn := w.drawn + 1 } (fun _ => undef) (fun _ => 0) (fun _ => 0) (by simp) (by simpa using hun l.length) (Below.refl _ w).drew
    (fun k _ h => by rw [hf] at h; cases h) (fun k _ _ => hf k) (fun i _ h => by rw [hf] at h; cases h) (fun i j _ _ h => by rw [hf] at h; cases h)
  have e : ∀ k, fr l.toArray (fun _ => undef) (fun j => (Array.replicate l.toArray.size false).getD j false) a k = a := fun k => by
    induction k with
    | zero => rfl
    | succ k ih => rw [fr, if_neg (by rw [hf]; exact Bool.false_ne_true), ih]
  rw [e] at this
  exact this
end
section
variable {P : Program} {l : List Oper} {s : List Nat} {Q : Exit → Act → World → Prop}
theorem wp_region_tailC {id : Nat} {a : Act} {w : World} (s : List Nat) (n : Nat) (C' : World → Prop) (Φ : Nat → List Value → Value → Nat → Nat → World → Prop) (ism : Nat → Bool) (hm : P.follows .mixedOrders = true) (hS : permB l s = true) (hB : chk (reorder l s).toArray (masks (reorder l s)) = true)
    (hT : chkTail (reorder l s) (masks (reorder l s)) n ism = true)
    (hC : ∀ w', Below w.heap.size w w' → C' w')
    (hΦ : ∀ i args v lo hi w w', Φ i args v lo hi w → Below w.heap.size w w' → Φ i args v lo hi w')
    (h : walkP P (reorder l s).toArray w (fun i w' => if lateB (reorder l s) (dm (masks (reorder l s))) n i then C' w' else ∃ e : Ext w, w' = e.world) Φ ism (dm (masks (reorder l s))) (tailC P (reorder l s).toArray C' Q ((reorder l s).drop n)) ((reorder l s).take n) 0 a [] []) : (Code.region id l.toArray true).wp P Q a w := by
  have c := permB_spec hS
  refine wp_region_any hm (any_perm c _ _ (Array.replicate (reorder l s).toArray.size false) _ _ ⟨by simp, by simp [reorder_len, c.len], fun i hi => ?_⟩ ?_)
  · simp only [Array.getD_eq_getD_getElem?, Array.getElem?_replicate]
    split <;> split <;> simp
  · have e : l.toArray.size = (reorder l s).toArray.size := by simp [reorder_len, c.len]
    rw [e]
    refine any_tailC _ n C' Φ ism hB hT hC hΦ ?_
    refine walkP_cl (fun i w' hw' => ?_) _ 0 a [] [] h
    split at hw'
    · rename_i hl; rw [if_pos hl]; exact hw'
    · rename_i hl; rw [if_neg hl]; exact ⟨⟨w', hw'⟩, rfl⟩
end
theorem tailC_call {P : Program} {ops : Array Oper} {C' : World → Prop} {Q : Exit → Act → World → Prop} {o : Oper} {rest : List Oper} {a : Act} {w : World} {f : FuncId} {args : Array Value} (hw : Region.wanted o (yielded ops a.tmps) = true) (hr : (execOp a.eval o).run P w = .ok (.enter f args) w)
    (h : Calls P f args w fun e w' => ∃ v, e = .returned v ∧ C' w' ∧ tailC P ops C' Q rest (a.put o.dst v) w') : tailC P ops C' Q (o :: rest) a w :=
  ⟨hw, .inr ⟨f, args, w, hr⟩, by
    unfold Oper.wp
    rw [hr, Oper.upon_enter]
    exact h.mono fun e w' ⟨v, he, h1⟩ => by subst he; exact h1⟩
end Go.Proofs.YteblddnoegbalaaGreat
