/- My texts PermJ, NrmR, Nrm1, Val, ApS, merged. -/
import Derived.Test.YtjodocheiejkeaaGreatDoorM02
import Derived.Test.YtjodocheiejkeaaGreatDoorM01
import Derived.Test.YtjodocheiejkeaaGreatDoorM00
import Derived.Test.YtjodocheiejkeaaGreatDoorProg
import Derived.WalkKit
import Derived.Lib.Hide
import Derived.Deep.QuietTactic
import Derived.BigQuiet
import Derived.Test.YtjodocheiejkeaaGreatDoorM04
import Derived.Test.YtjodocheiejkeaaGreatDoorM03
import Derived.WalkSpells
import Derived.Lib.SliceRun
import Derived.MapKept
import Derived.Maps.OwnSet
import Derived.Maps.OwnOps
import Derived.Deep.AppendLies
import Derived.Lib.Bytealg
import Derived.Test.YtjodocheiejkeaaGreatDoorM08
import Derived.Test.YtjodocheiejkeaaGreatDoorM07
import Derived.Deep.DeepCutAuto
import Derived.RangeFuncNested
import Derived.RangeFuncBound
import Derived.RangeFuncCalls
import Derived.RangeFuncLeaves
import Derived.OwnWalkIn
import Derived.TacticsInMore
import Derived.LoopNIn
import Derived.LoopIn
import Derived.Stop.RegionWithIn
import Derived.Shelf.Abstract
import Derived.Maps.RangeWalk
import Derived.Lib.SlicesCompact
import Derived.Shelf.Sort.Plain
import Derived.Shelf.Slices.CompactI
import Derived.Shelf.Slices.In.SortNone
import Derived.Shelf.Strconv.Itoa3
import Derived.Shelf.Strings.BuilderK
import Derived.Sort.OwnSortedInts
import Derived.RangeFuncBox
import Derived.Maps.OwnIn
import Derived.Lib.RowBridge

namespace Go.Proofs.YtjodocheiejkeaaGreatDoor
open Go.RowKit
section
variable {P : Program} {l : List Oper} {D : Nat → Nat → Bool} {Q : Exit → Act → World → Prop} {a0 : Act}
theorem put_other {a b : Act} {d : Option Tmp} {v v' : Value} (hs : a.tmps.size = b.tmps.size) (h : a.put d v = a.put d v') : b.put d v = b.put d v' := by
  cases d with
  | none => rfl
  | some d =>
    by_cases hd : d < a.tmps.size
    · have h1 := congrArg (fun x : Act => x.tmps[d]?) h
      simp only [Act.put, Array.getElem?_setIfInBounds, hd, if_true] at h1
      rw [Option.some.inj h1]
    · have hb : ¬ d < b.tmps.size := by rw [← hs]; exact hd
      simp only [Act.put, Array.setIfInBounds, hb, dif_neg, not_false_eq_true]
def StepJ (P : Program) (l : List Oper) (a0 : Act) (W : (Nat → Value) → (Nat → Bool) → World → Prop) (i : Nat) (vals : Nat → Value) (L : Nat → Bool) (w : World) : Prop :=
  Region.wanted (opAt l i) (yielded l.toArray (Afr l a0 vals i).tmps) = true ∧
    (opAt l i).wp P (Afr l a0 vals i) w (fun a' w' => ∃ v, a' = (Afr l a0 vals i).put (opAt l i).dst v ∧ W (updN vals i v) (updN L i true) w') (fun _ _ _ => False)
theorem StepJ.of {W : (Nat → Value) → (Nat → Bool) → World → Prop} {i : Nat} {vals : Nat → Value} {L : Nat → Bool} {w : World} (hw : Region.wanted (opAt l i) (yielded l.toArray (Afr l a0 vals i).tmps) = true)
    (h : ∀ K : Act → World → Prop, (∀ v w', W (updN vals i v) (updN L i true) w' → K ((Afr l a0 vals i).put (opAt l i).dst v) w') → (opAt l i).wp P (Afr l a0 vals i) w K (fun _ _ _ => False)) : StepJ P l a0 W i vals L w :=
  ⟨hw, h _ fun v _ hW => ⟨v, rfl, hW⟩⟩
theorem any_inv (c : Chk l.toArray D) (ht : ∀ i, i < l.length → tame (opAt l i) = true) (W : (Nat → Value) → (Nat → Bool) → World → Prop)
    (hstep : ∀ i, i < l.length → ∀ vals L w, L i = false → (∀ j, j < l.length → D i j = true → L j = true) → (∀ k, k < l.length → L k = true → ∀ j, j < l.length → D k j = true → L j = true) → W vals L w → StepJ P l a0 W i vals L w)
    (hend : ∀ vals L w, (∀ i, i < l.length → L i = true) → W vals L w → Q .normal (Afr l a0 vals l.length) w) :
    ∀ (fuel : Nat) (listed : Array Bool) (w : World) (vals : Nat → Value), listed.size = l.length → unl listed l.length ≤ fuel →
      (∀ k, k < l.length → listed.getD k false = true → ∀ i, i < l.length → D k i = true → listed.getD i false = true) →
      W vals (fun j => listed.getD j false) w → wpAny P .any l.toArray Q fuel listed (fr l.toArray vals (fun j => listed.getD j false) a0 l.length) w := by
  intro fuel
  have hfin : ∀ (listed : Array Bool) (w : World) (vals : Nat → Value), listed.size = l.length → W vals (fun j => listed.getD j false) w → Region.ready .any l.toArray listed = [] → Q .normal (fr l.toArray vals (fun j => listed.getD j false) a0 l.length) w := by
    intro listed w vals hsz hw hr
    have hall := all_listed c hsz hr
    have e : fr l.toArray vals (fun j => listed.getD j false) a0 l.length = Afr l a0 vals l.length := fr_congr _ (fun k hk => ⟨hall k hk, fun _ => rfl⟩)
    rw [e]
    exact hend vals _ w hall hw
  induction fuel with
  | zero =>
    intro listed w vals hsz hfuel hcl hw
    have hr := ready_nil (l := l) hsz (unl_zero (listed := listed) l.length (by omega))
    exact ⟨hr, hfin listed w vals hsz hw hr⟩
  | succ fuel ih =>
    intro listed w vals hsz hfuel hcl hw
    refine ⟨hfin listed w vals hsz hw, fun i hir => ?_⟩
    obtain ⟨h0, o, ho, hdep⟩ := mem_ready.1 hir
    have hil : i < l.length := by have := (Array.getElem?_eq_some_iff.1 ho).1; simpa using this
    have hlt : i < listed.size := by omega
    obtain rfl : o = opAt l i := by rw [opAt_eq hil] at ho; exact (Option.some.inj ho).symm
    have hiun : listed.getD i false = false := by simp [hlt] at h0 ⊢; exact h0
    have hdeps := deps_listed c hcl hil hdep
    have hno : ∀ k, k < l.length → listed.getD k false = true → D k i = false := fun k hk hlk => by
      cases hd : D k i with
      | false => rfl
      | true => rw [hcl k hk hlk i hil hd] at hiun; cases hiun
    have hfuel' : unl (listed.setIfInBounds i true) l.length ≤ fuel := by have := (unl_set hlt hiun l.length).2 hil; omega
    have hsel : ∀ cs b, (opAt l i).op ≠ .select cs b := fun cs b => c.sel i _ cs b (opAt_eq hil)
    have hag := agree_real (a0 := a0) (v1 := vals) (vals := vals) c hil hiun hdeps hno (fun k hk hlk => rfl)
    obtain ⟨hwant, hwp⟩ := hstep i hil vals _ w hiun hdeps hcl hw
    have := wp_agree (Q := Q) hsel (ht i hil) hag hwp
    unfold wpOp
    simp only [opAt_eq hil]
    rw [← hag.wanted, hwant, if_pos rfl]
    refine .inl (Oper.wp_mono (fun b' w' ⟨v, hb', v2, hv2, hW⟩ => ?_) this)
    rw [hb', put_other hag.1 hv2, fr_step c hil hlt hiun hno]
    refine ih _ w' _ (by simpa using hsz) hfuel' (closed_set hlt hcl hdeps) ?_
    have e : (fun j => (listed.setIfInBounds i true).getD j false) = updN (fun j => listed.getD j false) i true := by
      funext j
      rw [getD_set hlt]
      rfl
    rw [e]
    exact hW
theorem wp_region_inv {id : Nat} {w : World} (W : (Nat → Value) → (Nat → Bool) → World → Prop) (hm : P.follows .mixedOrders = true) (hB : chk l.toArray (masks l) = true) (ht : l.all tame = true) (h0 : W (fun _ => undef) (fun _ => false) w.drew)
    (hstep : ∀ i, i < l.length → ∀ vals L w, L i = false → (∀ j, j < l.length → dm (masks l) i j = true → L j = true) → (∀ k, k < l.length → L k = true → ∀ j, j < l.length → dm (masks l) k j = true → L j = true) → W vals L w → StepJ P l a0 W i vals L w)
    (hend : ∀ vals L w, (∀ i, i < l.length → L i = true) → W vals L w → Q .normal (Afr l a0 vals l.length) w) : (Code.region id l.toArray true).wp P Q a0 w := by
  refine wp_region_any hm ?_
  have hun : ∀ k, unl (Array.replicate l.toArray.size false) k ≤ k := fun k => by
    induction k with
    | zero => exact Nat.le_refl _
    | succ k ih => unfold unl; split <;> omega
  have hf : ∀ j, (Array.replicate l.toArray.size false).getD j false = false := fun j => by
    simp only [Array.getD_eq_getD_getElem?, Array.getElem?_replicate]
    split <;> simp
  have hff : (fun j => (Array.replicate l.toArray.size false).getD j false) = fun _ => false := funext hf
  have htt : ∀ i, i < l.length → tame (opAt l i) = true := fun i hi => by
    have := List.all_eq_true.1 ht (l[i]) (List.getElem_mem hi)
    simpa [opAt, List.getD, hi] using this
  have := any_inv (Q := Q) (a0 := a0) (chk_spec hB) htt W hstep hend l.toArray.size (Array.replicate l.toArray.size false) { w with drawn := w.drawn + 1 } (fun _ => undef) (by simp) (by simpa using hun l.length)
    (fun k _ h => by rw [hf] at h; cases h) (by rw [hff]; exact h0)
  have e : ∀ k, fr l.toArray (fun _ => undef) (fun j => (Array.replicate l.toArray.size false).getD j false) a0 k = a0 := fun k => by
    induction k with
    | zero => rfl
    | succ k ih => rw [fr, if_neg (by rw [hf]; exact Bool.false_ne_true), ih]
  rw [e] at this
  exact this
end
def Far (u v : Value) : Prop := ∀ g, u.ownBlock = some g → v.ownBlock ≠ some g
structure TW (w : World) (ob : Nat) (v1 v2 bd : Value) (l1 l2 : List Int) (x y : Int) (vals : Nat → Value) (L : Nat → Bool) (wx : World) : Prop where
  below : Below ob w wx
  out : Blk wx ob [if L 11 then vals 4 else v1, if L 13 then vals 9 else v2, bd] 46
  r1 : QRow (ob + 1) wx (if L 4 then vals 4 else v1) (if L 4 then l1 ++ [x] else l1)
  r2 : QRow (ob + 1) wx (if L 9 then vals 9 else v2) (if L 9 then l2 ++ [y] else l2)
  far : Far (if L 4 then vals 4 else v1) (if L 9 then vals 9 else v2)
  t0 : L 0 = true → vals 0 = .pointer (some ⟨ob, 0, none⟩)
  t1 : L 1 = true → vals 1 = v1
  t2 : L 2 = true → vals 2 = .int .i64 x
  t3 : L 3 = true → L 4 = false → ∃ b, vals 3 = .slice (some ⟨b, 0, none⟩) 1 1 ∧ Blk wx b [.int .i64 x] 3
  t5 : L 5 = true → vals 5 = .pointer (some ⟨ob, 1, none⟩)
  t6 : L 6 = true → vals 6 = v2
  t7 : L 7 = true → vals 7 = .int .i64 y
  t8 : L 8 = true → L 9 = false → ∃ b, vals 8 = .slice (some ⟨b, 0, none⟩) 1 1 ∧ Blk wx b [.int .i64 y] 3 ∧ v1.ownBlock ≠ some b
  t10 : L 10 = true → vals 10 = .pointer (some ⟨ob, 0, none⟩)
  t12 : L 12 = true → vals 12 = .pointer (some ⟨ob, 1, none⟩)
section
variable {w : World} {ob : Nat} {v1 v2 bd : Value} {l1 l2 : List Int} {x y : Int} {vals : Nat → Value} {L : Nat → Bool} {wx : World}
theorem TW.start (hb : Blk w ob [v1, v2, bd] 46) (h1 : QRow (ob + 1) w v1 l1) (h2 : QRow (ob + 1) w v2 l2) (hf : Far v1 v2) : TW w ob v1 v2 bd l1 l2 x y (fun _ => undef) (fun _ => false) w.drew where
  below := (Below.refl _ _).drew
  out := hb
  r1 := h1
  r2 := h2
  far := hf
  t0 := fun h => Bool.noConfusion h
  t1 := fun h => Bool.noConfusion h
  t2 := fun h => Bool.noConfusion h
  t3 := fun h => Bool.noConfusion h
  t5 := fun h => Bool.noConfusion h
  t6 := fun h => Bool.noConfusion h
  t7 := fun h => Bool.noConfusion h
  t8 := fun h => Bool.noConfusion h
  t10 := fun h => Bool.noConfusion h
  t12 := fun h => Bool.noConfusion h
def quietV (ob : Nat) (v1 v2 : Value) (x y : Int) : Nat → Value
  | 0 => .pointer (some ⟨ob, 0, none⟩)
  | 1 => v1
  | 2 => .int .i64 x
  | 5 => .pointer (some ⟨ob, 1, none⟩)
  | 6 => v2
  | 7 => .int .i64 y
  | 10 => .pointer (some ⟨ob, 0, none⟩)
  | _ => .pointer (some ⟨ob, 1, none⟩)
theorem TW.quiet (h : TW w ob v1 v2 bd l1 l2 x y vals L wx) (i : Nat) (hi : i = 0 ∨ i = 1 ∨ i = 2 ∨ i = 5 ∨ i = 6 ∨ i = 7 ∨ i = 10 ∨ i = 12) : TW w ob v1 v2 bd l1 l2 x y (updN vals i (quietV ob v1 v2 x y i)) (updN L i true) wx := by
  obtain ⟨h1, h2, h3, h4, h5, t0, t1, t2, t3, t5, t6, t7, t8, t10, t12⟩ := h
  rcases hi with rfl | rfl | rfl | rfl | rfl | rfl | rfl | rfl <;> constructor <;> first | (simp [updN, quietV]; done) | simpa [updN, quietV]
theorem TW.build3 (h : TW w ob v1 v2 bd l1 l2 x y vals L wx) : TW w ob v1 v2 bd l1 l2 x y (updN vals 3 (.slice (some ⟨wx.heap.size, 0, none⟩) 1 1)) (updN L 3 true) (wx.alloc (.cells #[.int .i64 x] 3)) := by
  have hal := bal (Below.refl wx.heap.size wx) (.cells #[.int .i64 x] 3)
  have hb := Blk.new wx [.int .i64 x] 3
  have hout := h.out.alloc (.cells #[.int .i64 x] 3)
  have h1 := h.r1.below hal
  have h2 := h.r2.below hal
  have h0 := h.below.trans (hal.mono (by have := h.out.lt; omega))
  obtain ⟨-, -, -, -, h5, t0, t1, t2, t3, t5, t6, t7, t8, t10, t12⟩ := h
  constructor <;> try (first | (simp [updN]; done) | simpa [updN])
  · intro _ _; exact ⟨_, by simp [updN], hb⟩
  · intro e1 e2
    simp only [updN, Nat.reduceEqDiff, if_false] at e1 e2
    obtain ⟨b, e, k, k2⟩ := t8 e1 e2
    exact ⟨b, by simpa [updN] using e, k.alloc _, k2⟩
theorem TW.build8 (h : TW w ob v1 v2 bd l1 l2 x y vals L wx) (hx : ∀ g, v1.ownBlock = some g → g < wx.heap.size) : TW w ob v1 v2 bd l1 l2 x y (updN vals 8 (.slice (some ⟨wx.heap.size, 0, none⟩) 1 1)) (updN L 8 true) (wx.alloc (.cells #[.int .i64 y] 3)) := by
  have hal := bal (Below.refl wx.heap.size wx) (.cells #[.int .i64 y] 3)
  have hb := Blk.new wx [.int .i64 y] 3
  have hout := h.out.alloc (.cells #[.int .i64 y] 3)
  have h1 := h.r1.below hal
  have h2 := h.r2.below hal
  have h0 := h.below.trans (hal.mono (by have := h.out.lt; omega))
  obtain ⟨-, -, -, -, h5, t0, t1, t2, t3, t5, t6, t7, t8, t10, t12⟩ := h
  constructor <;> try (first | (simp [updN]; done) | simpa [updN])
  · intro e1 e2
    simp only [updN, Nat.reduceEqDiff, if_false] at e1 e2
    obtain ⟨b, e, k⟩ := t3 e1 e2
    exact ⟨b, by simpa [updN] using e, k.alloc _⟩
  · intro _ _; exact ⟨_, by simp [updN], hb, fun e => by have := hx _ e; omega⟩
theorem below_row {n : Nat} {w w' : World} {u : Value} (h : w.grownBy w' u.ownBlock) (hn : n ≤ w.heap.size) (hu : ∀ g, u.ownBlock = some g → n ≤ g) : Below n w w' :=
  ⟨h.os, h.tape, h.output, h.size, fun i hi => h.block i (by omega) (fun e => by have := hu i e.symm; omega)⟩
theorem QRow.base {base : Nat} {w : World} {v : Value} {l : List Int} (h : QRow base w v l) {g : Nat} (e : v.ownBlock = some g) : base ≤ g ∧ g < w.heap.size := by
  rcases h.2 with ⟨rfl, _⟩ | ⟨g', off, cap, cur, rfl, hb, hg, _⟩
  · cases e
  · simp only [Value.ownBlock, Option.some.injEq] at e
    subst e
    exact ⟨hb, (Array.getElem?_eq_some_iff.1 hg).1⟩
theorem TW.app4 (h : TW w ob v1 v2 bd l1 l2 x y vals L wx) (h4 : L 4 = false) (h9 : L 9 = false) (h11 : L 11 = false) {v' : Value} {w' : World} (hq : QRow (ob + 1) w' v' (l1 ++ [x])) (hg : wx.grownBy w' v1.ownBlock) (ho : v'.ownBlock = v1.ownBlock ∨ v'.ownBlock = some wx.heap.size) :
    TW w ob v1 v2 bd l1 l2 x y (updN vals 4 v') (updN L 4 true) w' := by
  have hout := h.out
  have hr1 := h.r1
  have hr2 := h.r2
  have hf := h.far
  have hbl := h.below
  have hlt := hout.lt
  rw [h4] at hr1 hf
  rw [h9] at hr2 hf
  simp only [Bool.false_eq_true, if_false] at hr1 hr2 hf
  have hb : Below ob w w' := hbl.trans (below_row hg (by omega) (fun g e => by have := (hr1.base e).1; omega))
  have hr2' : QRow (ob + 1) w' v2 l2 := hr2.kept fun i h1 h2 h3 => hg.block i h2 (fun e => hf i e.symm h3)
  have hf' : Far v' v2 := fun g e e2 => by
    rcases ho with h1 | h1
    · exact hf g (h1 ▸ e) e2
    · rw [h1] at e
      have := (hr2.base e2).2
      have := Option.some.inj e
      omega
  have hout' : Blk w' ob [if L 11 then vals 4 else v1, if L 13 then vals 9 else v2, bd] 46 := hout.same (hg.block ob hlt (fun e => by have := (hr1.base e.symm).1; omega))
  obtain ⟨-, -, -, -, -, t0, t1, t2, t3, t5, t6, t7, t8, t10, t12⟩ := h
  have n11 : L 11 = false := h11
  rw [n11] at hout'
  simp only [Bool.false_eq_true, if_false] at hout'
  constructor
  · exact hb
  · simpa [updN, n11] using hout'
  · simpa [updN] using hq
  · simpa [updN, h9] using hr2'
  · simpa [updN, h9] using hf'
  · simpa [updN] using t0
  · simpa [updN] using t1
  · simpa [updN] using t2
  · intro _ e; simp [updN] at e
  · simpa [updN] using t5
  · simpa [updN] using t6
  · simpa [updN] using t7
  · intro e1 e2
    simp only [updN, Nat.reduceEqDiff, if_false] at e1 e2
    obtain ⟨b, e, k, k2⟩ := t8 e1 e2
    exact ⟨b, by simpa [updN] using e, k.same (hg.block b k.lt (fun e3 => k2 e3.symm)), k2⟩
  · simpa [updN] using t10
  · simpa [updN] using t12
theorem TW.app9 (h : TW w ob v1 v2 bd l1 l2 x y vals L wx) (h4 : L 4 = true) (h9 : L 9 = false) (h13 : L 13 = false) {v' : Value} {w' : World} (hq : QRow (ob + 1) w' v' (l2 ++ [y])) (hg : wx.grownBy w' v2.ownBlock) (ho : v'.ownBlock = v2.ownBlock ∨ v'.ownBlock = some wx.heap.size) :
    TW w ob v1 v2 bd l1 l2 x y (updN vals 9 v') (updN L 9 true) w' := by
  have hout := h.out
  have hr1 := h.r1
  have hr2 := h.r2
  have hf := h.far
  have hbl := h.below
  have hlt := hout.lt
  rw [h4] at hr1 hf
  rw [h9] at hr2 hf
  simp only [Bool.false_eq_true, if_false, if_true] at hr1 hr2 hf
  have hb : Below ob w w' := hbl.trans (below_row hg (by omega) (fun g e => by have := (hr2.base e).1; omega))
  have hr1' : QRow (ob + 1) w' (vals 4) (l1 ++ [x]) := hr1.kept fun i h1 h2 h3 => hg.block i h2 (fun e => hf i h3 e.symm)
  have hf' : Far (vals 4) v' := fun g e e2 => by
    rcases ho with h1 | h1
    · exact hf g e (h1 ▸ e2)
    · rw [h1] at e2
      have := (hr1.base e).2
      have := Option.some.inj e2
      omega
  have hout' : Blk w' ob [if L 11 then vals 4 else v1, if L 13 then vals 9 else v2, bd] 46 := hout.same (hg.block ob hlt (fun e => by have := (hr2.base e.symm).1; omega))
  obtain ⟨-, -, -, -, -, t0, t1, t2, t3, t5, t6, t7, t8, t10, t12⟩ := h
  rw [h13] at hout'
  simp only [Bool.false_eq_true, if_false] at hout'
  constructor
  · exact hb
  · simpa [updN, h13] using hout'
  · simpa [updN, h4] using hr1'
  · simpa [updN] using hq
  · simpa [updN, h4] using hf'
  · simpa [updN] using t0
  · simpa [updN] using t1
  · simpa [updN] using t2
  · intro _ e; simp [updN, h4] at e
  · simpa [updN] using t5
  · simpa [updN] using t6
  · simpa [updN] using t7
  · intro _ e; simp [updN] at e
  · simpa [updN] using t10
  · simpa [updN] using t12
theorem TW.store (h : TW w ob v1 v2 bd l1 l2 x y vals L wx) (i : Nat) (h4 : L 4 = true) (h9 : L 9 = true) (hi : i = 11 ∨ i = 13) (u : Value) :
    TW w ob v1 v2 bd l1 l2 x y (updN vals i u) (updN L i true) (wx.setCell ⟨ob, if i = 11 then 0 else 1, none⟩ (if i = 11 then vals 4 else vals 9)) := by
  have hout := h.out
  have hlt := hout.lt
  have hb : Below ob w (wx.setCell ⟨ob, if i = 11 then 0 else 1, none⟩ (if i = 11 then vals 4 else vals 9)) := h.below.setCell (p := ⟨ob, _, none⟩) (Nat.le_refl _) _
  have hr1 : QRow (ob + 1) (wx.setCell ⟨ob, if i = 11 then 0 else 1, none⟩ (if i = 11 then vals 4 else vals 9)) _ _ := h.r1.kept fun k h1 h2 _ => by
    simp only [World.setCell]
    rw [Array.getElem?_modify]
    rw [if_neg (by omega)]
  have hr2 : QRow (ob + 1) (wx.setCell ⟨ob, if i = 11 then 0 else 1, none⟩ (if i = 11 then vals 4 else vals 9)) _ _ := h.r2.kept fun k h1 h2 _ => by
    simp only [World.setCell]
    rw [Array.getElem?_modify]
    rw [if_neg (by omega)]
  have hs := hout.set (if i = 11 then 0 else 1) (if i = 11 then vals 4 else vals 9)
  obtain ⟨-, -, -, -, h5, t0, t1, t2, t3, t5, t6, t7, t8, t10, t12⟩ := h
  rw [h4] at hr1 h5
  rw [h9] at hr2 h5
  simp only [if_true] at hr1 hr2 h5
  rcases hi with rfl | rfl
  · simp only [if_true, List.set_cons_zero] at hs hb hr1 hr2 ⊢
    constructor
    · exact hb
    · simpa [updN] using hs
    · simpa [updN, h4] using hr1
    · simpa [updN, h9] using hr2
    · simpa [updN, h4, h9] using h5
    · simpa [updN] using t0
    · simpa [updN] using t1
    · simpa [updN] using t2
    · intro _ e; simp [updN, h4] at e
    · simpa [updN] using t5
    · simpa [updN] using t6
    · simpa [updN] using t7
    · intro _ e; simp [updN, h9] at e
    · simpa [updN] using t10
    · simpa [updN] using t12
  · simp only [Nat.reduceEqDiff, if_false, List.set_cons_zero, List.set_cons_succ] at hs hb hr1 hr2 ⊢
    constructor
    · exact hb
    · simpa [updN] using hs
    · simpa [updN, h4] using hr1
    · simpa [updN, h9] using hr2
    · simpa [updN, h4, h9] using h5
    · simpa [updN] using t0
    · simpa [updN] using t1
    · simpa [updN] using t2
    · intro _ e; simp [updN, h4] at e
    · simpa [updN] using t5
    · simpa [updN] using t6
    · simpa [updN] using t7
    · intro _ e; simp [updN, h9] at e
    · simpa [updN] using t10
    · simpa [updN] using t12
theorem TW.end (h : TW w ob v1 v2 bd l1 l2 x y vals L wx) (hL : ∀ i, i < 14 → L i = true) : Blk wx ob [vals 4, vals 9, bd] 46 ∧ QRow (ob + 1) wx (vals 4) (l1 ++ [x]) ∧ QRow (ob + 1) wx (vals 9) (l2 ++ [y]) ∧ Far (vals 4) (vals 9) ∧ Below ob w wx := by
  have h0 := h.out
  have h1 := h.r1
  have h2 := h.r2
  have h3 := h.far
  rw [hL 11 (by omega), hL 13 (by omega)] at h0
  rw [hL 4 (by omega)] at h1 h3
  rw [hL 9 (by omega)] at h2 h3
  exact ⟨h0, h1, h2, h3, h.below⟩
end
def PBQ (base : Nat) (w : World) (v : Value) (c : PBC) : Prop := ∃ vl vk, v = .agg #[vl, vk, .int .i64 c.bound] ∧ QRow base w vl c.lits ∧ QRow base w vk c.coefs ∧ InI c.bound ∧ c.lits.length ≤ 65536 ∧ c.coefs.length ≤ 65536
theorem PBQ.is {base : Nat} {w : World} {v : Value} {c : PBC} (h : PBQ base w v c) : PBIs w v c :=
  let ⟨vl, vk, e, h1, h2, h3, h4, h5⟩ := h; ⟨vl, vk, e, h1.ints (by omega), h2.ints (by omega), h3⟩
theorem PBQ.below {base : Nat} {w w' : World} {v : Value} {c : PBC} (h : PBQ base w v c) (hb : Below w.heap.size w w') : PBQ base w' v c :=
  let ⟨vl, vk, e, h1, h2, h3⟩ := h; ⟨vl, vk, e, h1.below hb, h2.below hb, h3⟩
abbrev pbZ : List Value := [.slice none 0 0, .slice none 0 0, .int .i64 0]
structure N1St (L K : List Int) (w : World) (k : Nat) (wx : World) : Prop where
  map : MapIs (Value.int .i64) wx (w.heap.size + 1) (mapK L K k)
  below : Below w.heap.size w wx
  box : Blk wx w.heap.size pbZ 46
  ok : ∀ j, j < k → pokAt L K j = true
def N1Rel (L K : List Int) (B : Int) (w : World) (b i : Value) (wx : World) : Prop := ∃ k : Nat, k ≤ L.length ∧ i = .int .i64 k ∧ b = .int .i64 (B - negTo L K k) ∧ N1St L K w k wx
theorem N1St.put {L K : List Int} {w wr w7 : World} {k : Nat} {x y : Int} (h : N1St L K w k wr) (hk : k < L.length) (hp : pokAt L K k = true) (hx : ((ix L k).natAbs : Int) = x) (hy : y = byTo L K x (k + 1))
    (hm : MapIs (Value.int .i64) w7 (w.heap.size + 1) (upd (mapK L K k) x (some (.int .i64 y)))) (hg : wr.grownBy w7 (some (w.heap.size + 1))) : N1St L K w (k + 1) w7 := by
  have hok : ∀ j, j < k + 1 → pokAt L K j = true := fun j hj => by
    by_cases e : j = k
    · subst e; exact hp
    · exact h.ok j (by omega)
  rw [mapK_step hk (fun j hj => (pok_at (hok j hj)).1) hx hy] at hm
  refine ⟨hm, h.below.trans ⟨hg.os, hg.tape, hg.output, hg.size, fun i hi => hg.block i (by have := h.below.size; omega) (fun e => by have := Option.some.inj e; omega)⟩, h.box.same (hg.block _ h.box.lt (fun e => by have := Option.some.inj e; omega)), hok⟩
theorem by_small {L K : List Int} {v : Int} {i : Nat} (hi : i ≤ 65536) (h : ∀ j, j < i → pokAt L K j = true) : -1099511627776 ≤ byTo L K v i ∧ byTo L K v i ≤ 1099511627776 := by
  have h1 := byTo_bound (L := L) (K := K) (v := v) i (fun j hj => (pok_at (h j hj)).2.2.2)
  omega
theorem neg_small {L K : List Int} {i : Nat} (hi : i ≤ 65536) (h : ∀ j, j < i → pokAt L K j = true) : -1099511627776 ≤ negTo L K i ∧ negTo L K i ≤ 1099511627776 := by
  have h1 := negTo_bound (L := L) (K := K) i (fun j hj => (pok_at (h j hj)).2.2.2)
  omega
theorem pok_fail {L K : List Int} {B : Int} (h0 : ¬ (L.length ≠ K.length ∨ 65536 < L.length ∨ B < -1099511627776 ∨ 1099511627776 < B)) {k : Nat} (hk : k < L.length) (h : pokAt L K k = false) : normP L K B = (⟨[], [], 0⟩, 2) := by
  unfold normP
  rw [if_neg h0, if_pos (allR_false k hk h)]
theorem pok_all {L K : List Int} {B : Int} (h0 : ¬ (L.length ≠ K.length ∨ 65536 < L.length ∨ B < -1099511627776 ∨ 1099511627776 < B)) (h : ∀ k, k < L.length → pokAt L K k = true) :
    normP L K B = normC (fun v => byTo L K v L.length) ((keysOf L).filter fun v => byTo L K v L.length != 0) (B - negTo L K L.length - sumI (fun v => lowI (byTo L K v L.length)) (keysOf L)) := by
  unfold normP
  rw [if_neg h0, if_neg (by rw [allR_true h]; exact Bool.false_ne_true ∘ Eq.symm)]
section
variable {κ : Type} {kv : κ → Value} {P : Program} {w : World} {ops : Array Oper} {rest : List Oper} {o : Oper} {a : Act} {Q : Exit → Act → World → Prop}
theorem wpList_mnext0 [DecidableEq κ] (g : κ → Option Value) (b r : Nat) (left : κ → Bool) (hinj : ∀ a c, kv a = kv c → a = c)
    (hg : o.guard = none) (it : Operand) (hop : o.op = Op.next it false) (hit : a.eval it = .pointer (some ⟨r, 0, none⟩)) (h : RangeIs kv w b r g left 0)
    (hDone : (∀ k, left k = false) → wpList P ops Q rest (a.put o.dst (.tuple #[.bool false])) w) : wpList P ops Q (o :: rest) a w :=
  wpList_mnext g b r left 0 hinj hg it hop hit h (fun _ => hDone) (fun _ _ _ _ _ _ _ hlt => absurd hlt (Nat.not_lt_zero _))
theorem wpList_mnext1 [DecidableEq κ] (g : κ → Option Value) (b r : Nat) (left : κ → Bool) (cnt : Nat) (hc : cnt ≠ 0) (hinj : ∀ a c, kv a = kv c → a = c)
    (hg : o.guard = none) (it : Operand) (hop : o.op = Op.next it false) (hit : a.eval it = .pointer (some ⟨r, 0, none⟩)) (h : RangeIs kv w b r g left cnt)
    (hMore : ∀ k v w' cnt', left k = true → g k = some v → RangeIs kv w' b r g (fun x => left x && !decide (x = k)) cnt' → cnt' < cnt → w.grownBy w' (some r) → w'.heap.size = w.heap.size →
      (Instr.entry (.pointer (some ⟨r, 0, none⟩))).run P w' = .ok (.tuple #[kv k, v]) w' → wpList P ops Q rest (a.put o.dst (.tuple #[.bool true, kv k, v])) w') : wpList P ops Q (o :: rest) a w :=
  wpList_mnext g b r left cnt hinj hg it hop hit h (fun h0 => absurd h0 hc) hMore
end
theorem kvI_inj : ∀ a c : Int, Value.int .i64 a = Value.int .i64 c → a = c := fun _ _ h => by injection h
theorem below3 {n : Nat} {w wr : World} (h : Below n w wr) (b : Nat) (hb : n ≤ b) (x y z : Value) : Below n w (((wr.setCell ⟨b, 0, none⟩ x).setCell ⟨b, 1, none⟩ y).setCell ⟨b, 2, none⟩ z) :=
  ((h.setCell (p := ⟨b, 0, none⟩) hb _).setCell (p := ⟨b, 1, none⟩) hb _).setCell (p := ⟨b, 2, none⟩) hb _
theorem row3 {base : Nat} {wr : World} {v : Value} {l : List Int} (h : QRow base wr v l) (b : Nat) (hb : b < base) (x y z : Value) : QRow base (((wr.setCell ⟨b, 0, none⟩ x).setCell ⟨b, 1, none⟩ y).setCell ⟨b, 2, none⟩ z) v l :=
  h.kept fun i h1 _ _ => ((Below.heap_setCell _ _ _ _ (by show i ≠ b; omega)).trans (Below.heap_setCell _ _ _ _ (by show i ≠ b; omega))).trans (Below.heap_setCell _ _ _ _ (by show i ≠ b; omega))
def flK (L K : List Int) (ks : List Int) : List Int := ks.filter fun v => byTo L K v L.length != 0
def lowS (L K : List Int) (ks : List Int) : Int := sumI (fun v => lowI (byTo L K v L.length)) ks
theorem flK_snoc (L K : List Int) (ks : List Int) (v : Int) : flK L K (ks ++ [v]) = if byTo L K v L.length = 0 then flK L K ks else flK L K ks ++ [v] := by
  unfold flK
  rw [List.filter_append]
  by_cases h : byTo L K v L.length = 0 <;> simp [h]
theorem lowS_snoc (L K : List Int) (ks : List Int) (v : Int) : lowS L K (ks ++ [v]) = if byTo L K v L.length < 0 then lowS L K ks + byTo L K v L.length else lowS L K ks := by
  unfold lowS
  rw [sumI_snoc]
  unfold lowI
  split <;> omega
structure N2W (L K : List Int) (w : World) (R0 : Nat) (left : Int → Bool) (cnt : Nat) (v12 : Value) (l : List Int) (wx : World) : Prop where
  rng : RangeIs (Value.int .i64) wx (w.heap.size + 1) R0 (mapK L K L.length) left cnt
  row : wx.ownsRow (R0 + 1) 3 1 v12 l.length (l.map (Value.int .i64))
  below : Below w.heap.size w wx
  box : Blk wx w.heap.size pbZ 46
  lt : w.heap.size + 1 < R0
def N2Rel (L K : List Int) (B : Int) (w : World) (R0 : Nat) (b v12 : Value) (wx : World) : Prop :=
  ∃ left cnt ks, Met L left ks ∧ b = .int .i64 (B - negTo L K L.length - lowS L K ks) ∧ N2W L K w R0 left cnt v12 (flK L K ks) wx
section
variable {L K : List Int} {w wr w1 w4 : World} {R0 : Nat} {left : Int → Bool} {cnt : Nat} {v12 : Value} {l : List Int}
theorem N2W.step (h : N2W L K w R0 left cnt v12 l wr) {left' : Int → Bool} {cnt' : Nat} (hr : RangeIs (Value.int .i64) w1 (w.heap.size + 1) R0 (mapK L K L.length) left' cnt') (hg : wr.grownBy w1 (some R0)) : N2W L K w R0 left' cnt' v12 l w1 := by
  refine ⟨hr, ?_, h.below.trans ⟨hg.os, hg.tape, hg.output, hg.size, fun i hi => hg.block i (by have := h.below.size; omega) (fun e => by have := h.lt; have := Option.some.inj e; omega)⟩, h.box.same (hg.block _ h.box.lt (fun e => by have := h.lt; have := Option.some.inj e; omega)), h.lt⟩
  refine h.row.kept hg ?_
  rcases h.row.2 with ⟨e2, _⟩ | ⟨g', cap, cur, e2, hb, _⟩
  · rw [e2]; exact .inl rfl
  · rw [e2]; refine .inr fun e => ?_
    have : g' = R0 := Option.some.inj e
    omega
theorem N2W.form (h : N2W L K w R0 left cnt v12 l wr) : ∃ a n c, v12 = .slice a n c := by
  rcases h.row.2 with ⟨e2, _⟩ | ⟨g', cap, cur, e2, hb, _⟩ <;> exact ⟨_, _, _, e2⟩
theorem N2W.own (h : N2W L K w R0 left cnt v12 l w1) : ∀ g, v12.ownBlock = some g → R0 + 1 ≤ g := fun g e => by
  rcases h.row.2 with ⟨e2, _⟩ | ⟨g', cap, cur, e2, hb, _⟩
  · rw [e2] at e; cases e
  · rw [e2] at e
    simp only [Value.ownBlock, Option.some.injEq] at e
    omega
theorem N2W.sorted (h : N2W L K w R0 left cnt v12 l w1) (hg : w1.grownBy w4 v12.ownBlock) : MapIs (Value.int .i64) w4 (w.heap.size + 1) (mapK L K L.length) ∧ Below w.heap.size w w4 ∧ Blk w4 w.heap.size pbZ 46 ∧ w.heap.size + 1 < w4.heap.size := by
  have hown := h.own
  have hlt := h.rng.lt
  have hl := h.lt
  have hsz := hg.size
  exact ⟨h.rng.map.same (hg.block _ h.rng.map.lt (fun e => by have := hown _ e.symm; omega)), h.below.grown hg h.below.size (fun k e => by have := hown _ e; omega), h.box.same (hg.block _ h.box.lt (fun e => by have := hown _ e.symm; omega)), by omega⟩
theorem N2W.push (h : N2W L K w R0 left cnt v12 l w1) {o : Obj} {x : Int} {v4 : Value} (hg : (w1.alloc o).grownBy w4 v12.ownBlock) (hrow : w4.ownsRow (R0 + 1) 3 1 v4 (l.length + 1) (l.map (Value.int .i64) ++ [.int .i64 x])) : N2W L K w R0 left cnt v4 (l ++ [x]) w4 := by
  have hal := bal (Below.refl w1.heap.size w1) o
  have hz : (w1.alloc o).heap.size = w1.heap.size + 1 := World.size_alloc ..
  have hown : ∀ g, v12.ownBlock = some g → R0 + 1 ≤ g := fun g e => by
    rcases h.row.2 with ⟨e2, _⟩ | ⟨g', cap, cur, e2, hb, _⟩
    · rw [e2] at e; cases e
    · rw [e2] at e
      simp only [Value.ownBlock, Option.some.injEq] at e
      omega
  have hlt := h.rng.lt
  have hsz := h.below.size
  have hl := h.lt
  have hrng : RangeIs (Value.int .i64) w4 (w.heap.size + 1) R0 (mapK L K L.length) left cnt := (h.rng.alloc o).grown hg (fun e => by have := hown _ e.symm; omega) (fun e => by have := hown _ e.symm; omega)
  refine ⟨hrng, ?_, (h.below.trans (hal.mono hsz)).grown hg (by omega) (fun k e => by have := hown _ e; omega), (h.box.alloc o).same (hg.block _ (h.box.alloc o).lt (fun e => by have := hown _ e.symm; omega)), h.lt⟩
  rw [List.length_append, List.map_append]
  exact hrow
end
def litsTo (L K V : List Int) (k : Nat) : List Int := (V.take k).map (litOf fun v => byTo L K v L.length)
def coefTo (L K V : List Int) (bd : Int) (k : Nat) : List Int := (V.take k).map fun v => minI (absI (byTo L K v L.length)) bd
def sumN (L K V : List Int) (bd : Int) (k : Nat) : Int := sumI (fun v => minI (absI (byTo L K v L.length)) bd) (V.take k)
theorem take_ixN (V : List Int) (k : Nat) (hk : k < V.length) : V.take (k + 1) = V.take k ++ [ix V k] := by
  rw [List.take_add_one, List.getElem?_eq_getElem hk]
  simp [ix, List.getD_eq_getElem?_getD, List.getElem?_eq_getElem hk]
theorem litsTo_succ {L K V : List Int} {k : Nat} (hk : k < V.length) : litsTo L K V (k + 1) = litsTo L K V k ++ [litOf (fun v => byTo L K v L.length) (ix V k)] := by simp [litsTo, take_ixN V k hk]
theorem coefTo_succ {L K V : List Int} {bd : Int} {k : Nat} (hk : k < V.length) : coefTo L K V bd (k + 1) = coefTo L K V bd k ++ [minI (absI (byTo L K (ix V k) L.length)) bd] := by simp [coefTo, take_ixN V k hk]
theorem sumN_succ {L K V : List Int} {bd : Int} {k : Nat} (hk : k < V.length) : sumN L K V bd (k + 1) = sumN L K V bd k + minI (absI (byTo L K (ix V k) L.length)) bd := by simp [sumN, take_ixN V k hk, sumI_snoc]
structure N3St (L K V : List Int) (w W3 : World) (bd : Int) (k : Nat) (vl vk : Value) (wx : World) : Prop where
  up : Below W3.heap.size W3 wx
  out : Blk wx W3.heap.size [vl, vk, .int .i64 bd] 46
  rl : QRow (W3.heap.size + 1) wx vl (litsTo L K V k)
  rk : QRow (W3.heap.size + 1) wx vk (coefTo L K V bd k)
  far : Far vl vk
def N3Rel (L K V : List Int) (w W3 : World) (bd : Int) (s i : Value) (wx : World) : Prop :=
  ∃ (k : Nat) (vl vk : Value), k ≤ V.length ∧ i = .int .i64 k ∧ s = .int .i64 (sumN L K V bd k) ∧ N3St L K V w W3 bd k vl vk wx
theorem N3St.start (L K V : List Int) (w W3 : World) (bd : Int) : N3St L K V w W3 bd 0 (.slice none 0 0) (.slice none 0 0) (W3.alloc (.cells #[.slice none 0 0, .slice none 0 0, .int .i64 bd] 46)) :=
  ⟨bal (Below.refl _ _) _, Blk.new W3 [.slice none 0 0, .slice none 0 0, .int .i64 bd] _, QRow.nil _ _, QRow.nil _ _, fun g e => by cases e⟩
theorem N3St.step {L K V : List Int} {w W3 wr w' : World} {k : Nat} {bd : Int} {vl vk vl' vk' : Value} (h : N3St L K V w W3 bd k vl vk wr) (hk : k < V.length) (hb : Below W3.heap.size wr w')
    (ho : Blk w' W3.heap.size [vl', vk', .int .i64 bd] 46) (h1 : QRow (W3.heap.size + 1) w' vl' (litsTo L K V k ++ [litOf (fun v => byTo L K v L.length) (ix V k)])) (h2 : QRow (W3.heap.size + 1) w' vk' (coefTo L K V bd k ++ [minI (absI (byTo L K (ix V k) L.length)) bd])) (hf : Far vl' vk') :
    N3St L K V w W3 bd (k + 1) vl' vk' w' :=
  ⟨h.up.trans hb, ho, by rw [litsTo_succ hk]; exact h1, by rw [coefTo_succ hk]; exact h2, hf⟩
theorem sumN_small {L K V : List Int} {bd : Int} (hb : 0 < bd) (hy : ∀ v, -1099511627776 ≤ byTo L K v L.length ∧ byTo L K v L.length ≤ 1099511627776) : ∀ k : Nat, k ≤ V.length → 0 ≤ sumN L K V bd k ∧ sumN L K V bd k ≤ 1099511627776 * k
  | 0, _ => by simp [sumN, sumI]
  | k + 1, h => by
    have ih := sumN_small (L := L) (K := K) (V := V) hb hy k (by omega)
    rw [sumN_succ (by omega)]
    have h0 := hy (ix V k)
    have h1 : 0 ≤ minI (absI (byTo L K (ix V k) L.length)) bd ∧ minI (absI (byTo L K (ix V k) L.length)) bd ≤ 1099511627776 := by
      unfold minI absI
      split <;> split <;> omega
    omega
theorem lowS_small {L K : List Int} (hy : ∀ v, -1099511627776 ≤ byTo L K v L.length ∧ byTo L K v L.length ≤ 1099511627776) (ks : List Int) : -(1099511627776 * (ks.length : Int)) ≤ lowS L K ks ∧ lowS L K ks ≤ 0 := by
  unfold lowS
  induction ks with
  | nil => simp [sumI]
  | cons v ks ih =>
    have h := hy v
    have h1 : -1099511627776 ≤ lowI (byTo L K v L.length) ∧ lowI (byTo L K v L.length) ≤ 0 := by unfold lowI; split <;> omega
    simp only [sumI, List.length_cons]
    omega
end Go.Proofs.YtjodocheiejkeaaGreatDoor
namespace Go.Proofs.YtjodocheiejkeaaGreatDoor
open Go.RowKit Go.Shelf
attribute [local go_sem] Oper.semAt_some
abbrev EV (l : List Int) := { x : Int // x ∈ l }
def evs {l : List Int} (xs : List (EV l)) : List Int := xs.map (·.1)
theorem evs_snoc {l : List Int} (xs : List (EV l)) (x : EV l) : evs (xs ++ [x]) = evs xs ++ [x.1] := by simp [evs]
theorem evs_len {l : List Int} (xs : List (EV l)) : (evs xs).length = xs.length := by simp [evs]
theorem values_any (a : Option Addr) (n c : Nat) (w : World) :
    Calls Tryz.prog 52 #[.slice a n c] w fun e w' => e = .returned (.func (.func 88) #[] #[.pointer (some ⟨w.heap.size, 0, none⟩)]) ∧ Below w.heap.size w w' ∧ Blk w' w.heap.size [.slice a n c] 23 ∧ w'.heap.size = w.heap.size + 1 := by
  have HB : Hid (Below w.heap.size w (w.alloc (.cells #[.slice a n c] 23))) := Lib.hid (bal (Below.refl _ _) _)
  have HK := Lib.hid (Blk.new w [.slice a n c] 23)
  go_enter Tryz.func52, Tryz.ntmps52
  go_wp2
  go_ret
  exact ⟨rfl, HB.out, HK.out, by simp⟩
def ValRel (l : List Int) (n0 : Nat) (W0 : World) (J : List (EV l) → World → Prop) (i : Value) (wr : World) : Prop :=
  ∃ (k : Nat) (pre : List (EV l)), k ≤ l.length ∧ i = .int .i64 k ∧ evs pre = l.take k ∧ J pre wr ∧ Below n0 W0 wr
theorem take_ixV (l : List Int) (k : Nat) (hk : k < l.length) : l.take (k + 1) = l.take k ++ [ix l k] := by
  rw [List.take_add_one, List.getElem?_eq_getElem hk]
  simp [ix, List.getD_eq_getElem?_getD, List.getElem?_eq_getElem hk]
set_option maxHeartbeats 4000000 in
set_option maxRecDepth 100000 in
theorem vals_stops (l : List Int) (wi w0 : World) (v : Value) (n0 cb : Nat) (hI : Ints wi v l) (hb : Below wi.heap.size wi w0) (hcb : Blk w0 cb [v] 23) (_h1 : cb < n0) (h2 : wi.heap.size ≤ n0) (_h3 : n0 ≤ w0.heap.size) (n : Nat) (hn : 1 ≤ n) :
    SeqStopsK Fence.wide n Tryz.prog 88 #[.pointer (some ⟨cb, 0, none⟩)] (fun x : EV l => #[.int .i64 x.1]) (Below n0)
      (fun xs => evs xs = l) (fun _ => True) l.length w0 := by
  intro lp J Jx W hW hJ hJx hY h0
  obtain ⟨a1, c1, rfl, -, hl1, -, hcell1⟩ := hI.form
  have HC1 := Lib.hid hcell1
  have HY := Lib.hid hY
  have HJ := Lib.hid hJ
  have HJX := Lib.hid hJx
  have H0 := Lib.hid h0
  have HBW : Hid (Below wi.heap.size wi W) := Lib.hid (hb.trans (hW.mono hb.size))
  have HCB := Lib.hid (hcb.below hW)
  have kp := HCB.out.cell
  have hzW := hW.size
  have hzb := hb.size
  clear hY hJ hJx h0 hW hcell1 hb hcb hI
  refine callsIn_of_wp Tryz.func88 rfl trivial ?_ rfl
  simp only [Tryz.ntmps88, List.size_toArray, List.length_cons, List.length_nil, Nat.reduceAdd, Nat.reduceSub, Array.replicate_succ, Array.replicate_zero, List.push_toArray, List.append_toArray, List.nil_append, List.cons_append]
  gi_wp2
  clear kp
  gi_loopw [7] (fun i wr => ValRel l n0 W J i wr) (fun i _ => l.length - (intOf i).toNat)
  case atStart => exact ⟨0, [], Nat.zero_le _, rfl, by simp [evs], H0.out, Below.refl _ _⟩
  case round =>
    obtain ⟨k, pre, hk, rfl, hpre, hj, hlim⟩ := hrel
    have HJR := Lib.hid hj
    have HPRE := Lib.hid hpre
    have HLIM := Lib.hid hlim
    clear hj hpre hlim
    by_cases hlt : k < l.length
    · obtain ⟨b1, o1, rfl, hb1, hc1⟩ := HC1.out (by omega)
      have k1 := ((cell_of_same (o := o1 + k) (HLIM.out.block b1 (by omega))).trans (bcell HBW.out _ _ hb1)).trans (hc1 k hlt)
      have HLN : Hid (pre.length < l.length) := Lib.hid (by
        have h1 := congrArg List.length HPRE.out
        rw [evs_len, List.length_take] at h1
        omega)
      have HM : Hid (ix l k ∈ l) := Lib.hid (ix_mem hlt)
      have HZ := Lib.hid (take_ixV l k hlt)
      clear hc1
      obtain ⟨fn, tmps, assign, body, hy, hR⟩ := HY.out pre ⟨_, HM.out⟩ wr HJR.out HLN.out
      dsimp only at hy
      gi_wp2_with (refine hR.mono ?_; rintro e W3 h3; obtain ⟨bb, rfl, hbt, hbf⟩ := yieldEnd2 h3; have HBT := Lib.hid hbt; have HBF := Lib.hid hbf; clear hbt hbf h3)
      case roundEnd =>
        obtain rfl : bb = true := by simpa using ‹(!bb) = false›
        exact ⟨⟨k + 1, pre ++ [_], hlt, by go_num, by rw [evs_snoc, HPRE.out, HZ.out], (HBT.out (by first | exact rfl | exact trivial)).1, HLIM.out.trans (HBT.out (by first | exact rfl | exact trivial)).2⟩, by simp [intOf]; omega⟩
      obtain rfl : bb = false := by simpa using ‹(!bb) = true›
      refine bodyPost_ret (results_none rfl _ _ _) rfl ?_
      exact ⟨⟨_, rfl⟩, .inr ⟨pre ++ [_], trivial, HBF.out (by first | exact rfl | exact trivial)⟩⟩
    · gi_wp2
      go_end0
      obtain rfl : k = l.length := by omega
      exact ⟨⟨_, rfl⟩, .inl ⟨pre, by rw [HPRE.out, List.take_length], HJR.out⟩⟩
end Go.Proofs.YtjodocheiejkeaaGreatDoor
namespace Go.Proofs.YtjodocheiejkeaaGreatDoor
open Go.RowKit Go.Shelf Go.Sort
attribute [local go_sem] Oper.semAt_some
theorem own_of_row {base : Nat} {w : World} {v : Value} {l : List Int} (h : w.ownsRow base 3 1 v l.length (l.map (Value.int .i64))) (h8 : l.length * 8 ≤ 140737488351232) (hf : Fits l) : OwnI base w v l := by
  refine ⟨⟨?_, h8⟩, hf⟩
  rw [ix_map]
  exact h
set_option maxHeartbeats 4000000 in
set_option maxRecDepth 100000 in
theorem appSeq_any (l : List Int) (wi w : World) (v : Value) (cb : Nat) (hI : Ints wi v l) (hb : Below wi.heap.size wi w) (hcb : Blk w cb [v] 23) :
    Calls Tryz.prog 137 #[.slice none 0 0, .func (.func 88) #[] #[.pointer (some ⟨cb, 0, none⟩)]] w fun e w' => ∃ vo, e = .returned vo ∧ OwnI w.heap.size w' vo l ∧ Below w.heap.size w w' := by
  obtain ⟨i0, hi, hz0, hz1, hz2⟩ := info_parts infoI
  have h8 : l.length * 8 ≤ 140737488351232 := by obtain ⟨⟨_, _, _, _, _, h, _⟩, _⟩ := hI; exact h
  have hfit := hI.2
  have HFIT := Lib.hid hfit
  have hcl := hcb.lt
  have bO := Boxed.new w 23 (.slice none 0 0)
  have hB0 : Below w.heap.size w (w.alloc (.cells #[.slice none 0 0] 23)) := bal (Below.refl _ _) _
  have hzb := hb.size
  refine (callsIn_wide (n := 6)).1 ?_
  refine callsIn_of_wp_marks Tryz.func137 rfl trivial ?_ rfl
  simp only [Tryz.ntmps137, List.size_toArray, List.length_cons, List.length_nil, Nat.reduceAdd, Nat.reduceSub, Array.replicate_succ, Array.replicate_zero, List.push_toArray, List.append_toArray, List.nil_append, List.cons_append]
  gi_wp2
  refine wpIn_rangeFunc_ownG rfl (by omega) (gf := 88) (lb := #[.pointer (some ⟨cb, 0, none⟩)]) rfl trivial (enters_of Tryz.func88 (by kernel_rfl) rfl)
    (vals_stops l wi _ v w.heap.size cb hI (bon hb hB0) (hcb.below hB0) hcl hzb (by simp) 5 (by omega)) belowK_t (belowK_b (by simp)) (Below.refl _ _) (fun _ => rfl)
    (fun pre W => (∃ v, Boxed W w.heap.size 23 v ∧ W.ownsRow w.heap.size 3 1 v pre.length ((evs pre).map (Value.int .i64)) ∧ True) ∧ Below w.heap.size w W)
    (fun _ _ _ => False)
    (OwnFrom.and (Own.from (holdsRow_own w.heap.size w.heap.size 23 3 1 (fun pre : List (EV l) => pre.length) (fun pre => (evs pre).map (Value.int .i64)) (fun _ _ => True)) _) (ownFrom_below (Nat.le_refl _) (by simp)))
    (fun _ _ _ _ _ hs _ _ => hs)
    ⟨⟨_, bO, World.ownsRow_nil _ _ _ _, trivial⟩, hB0⟩
    (fun x => { tmps := #[.slice none 0 0, .func (.func 88) #[] #[.pointer (some ⟨cb, 0, none⟩)], .pointer (some ⟨w.heap.size, 0, none⟩), undef, .slice none 0 0, .int .i64 x.1, .func (.func 88) #[] #[.pointer (some ⟨cb, 0, none⟩)], .int .i64 x.1, undef, undef, undef, undef, undef], defers := [] }) ?assign ?body ?done ?stop
  case assign =>
    intro lp x W K hK
    gi_wp2
    exact hK
  case body =>
    rintro lp pre x W ⟨⟨v1, hv, hrow, -⟩, hB⟩ hlt
    have hc := hv.cell
    gi_wp2_with (gi_at_builtin; refine wpListIn_append_own _ rfl _ _ 23 rfl w.heap.size 3 i0 (.int .i64 0) 1 8 Tryz.underlying23 hi hz0 hz1 hz2 rfl (by decide) _ _ _ rfl (hrow.alloc _) ⟨W.heap.size, 0, none⟩ 1 1 [.int .i64 x.1] rfl rfl (cell_one_new _ _ _) (by simp [Value.oneCell']) (by unfold maxLen; omega) (by omega) (by have := hB.size; simp; omega) ?_; intro v' w1 hown' hgrow _; obtain ⟨g', cap', rfl⟩ := ownsRow_succ hown'; obtain ⟨hv1, hv2, hr2, hk2, hb2⟩ := hv.appended (by decide) hrow hB.size (Nat.le_refl _) hown' hgrow; have hc1 := hv1.cell; have hf1 := hv1.frozen)
    exact ⟨hk2.from _, hb2, ⟨_, hv2, by rw [evs_snoc]; simpa using hr2, trivial⟩, hB.trans hb2⟩
  case done =>
    rintro D ys W hD hys ⟨⟨v1, hv, hrow, -⟩, hB⟩ hK
    have hc := hv.cell
    gi_wp2
    refine ⟨by simp, .inl ⟨_, _, rfl, run_takeDeferred hK, ?_⟩⟩
    refine ⟨_, results_tmp rfl _ _ _, v1, rfl, own_of_row ?_ h8 HFIT.out, hB.trans (belowK_b (w := w) (Nat.le_refl _) W D _ _ (by simp at hD; omega) hK rfl rfl)⟩
    have h1 := ownsRow_putObj hrow (.deferred none) hK rfl
    rw [show ys.length = l.length by rw [← evs_len, hys], hys] at h1
    exact h1
  case stop =>
    rintro D c pre W _ _ h _
    exact h.elim
theorem collect_any (l : List Int) (wi w : World) (v : Value) (cb : Nat) (hI : Ints wi v l) (hb : Below wi.heap.size wi w) (hcb : Blk w cb [v] 23) :
    Calls Tryz.prog 87 #[.func (.func 88) #[] #[.pointer (some ⟨cb, 0, none⟩)]] w fun e w' => ∃ vo, e = .returned vo ∧ OwnI w.heap.size w' vo l ∧ Below w.heap.size w w' := by
  have HA := Lib.hid (appSeq_any l wi w v cb hI hb hcb)
  clear hI hb hcb
  go_enter Tryz.func87, Tryz.ntmps87
  go_wp2_with (go_at_call 137; (with_reducible refine (HA.out).mono ?_); rintro e w1 ⟨vo, rfl, ho, hb1⟩)
  go_ret
  exact ⟨vo, rfl, ho, hb1⟩
theorem sorted_any (l : List Int) (wi w : World) (v : Value) (cb : Nat) (hI : Ints wi v l) (hb : Below wi.heap.size wi w) (hcb : Blk w cb [v] 23) :
    Calls Tryz.prog 51 #[.func (.func 88) #[] #[.pointer (some ⟨cb, 0, none⟩)]] w fun e w' => ∃ vo, e = .returned vo ∧ OwnI w.heap.size w' vo (srt l) ∧ Below w.heap.size w w' := by
  have HA := Lib.hid (collect_any l wi w v cb hI hb hcb)
  clear hI hb hcb
  go_enter Tryz.func51, Tryz.ntmps51
  go_wp2_with (first
    | (go_at_call 78; (with_reducible refine (sortI_own HO.out).mono ?_); rintro e w2 ⟨rfl, ho2, hg2⟩)
    | (go_at_call 87; (with_reducible refine (HA.out).mono ?_); rintro e w1 ⟨vo, rfl, ho, hb1⟩; have HO := Lib.hid ho; obtain ⟨av, nv, rfl⟩ := ho.1.form; have HB1 := Lib.hid hb1; clear ho hb1))
  go_ret
  refine ⟨_, rfl, ho2, HB1.out.grown hg2 HB1.out.size (fun k ek => ?_)⟩
  rcases HO.out.1.1.2 with ⟨e, _⟩ | ⟨g, cap, cur, e, hbase, _⟩
  · rw [e] at ek; cases ek
  · rw [e] at ek
    simp only [Value.ownBlock, Option.some.injEq] at ek
    omega
theorem compact_mem {l : List Int} {x : Int} (h : x ∈ Lib.compact l) : x ∈ l := by
  unfold Lib.compact Lib.compactUpTo at h
  obtain ⟨j, hj, rfl⟩ := List.mem_map.1 h
  have h1 := List.mem_range.1 (List.mem_filter.1 hj).1
  show l.toArray[j]! ∈ l
  rw [geti l h1]
  exact List.getElem_mem h1
theorem grow_nil (w : World) : grow w #[] = w := by cases w; simp [grow]
theorem compactI_own {base : Nat} {w : World} {v : Value} {l : List Int} (h : OwnI base w v l) :
    Calls Tryz.prog 50 #[v] w fun e w' => ∃ a c, e = .returned (.slice a (Lib.compact l).length c) ∧ Ints w' (.slice a (Lib.compact l).length c) (Lib.compact l) ∧ w.grownBy w' v.ownBlock := by
  have hb8 := h.1.2
  have hfit : Fits (Lib.compact l) := fits_mem h.2 fun x hx => compact_mem hx
  rcases h.1.1.2 with ⟨rfl, e⟩ | ⟨g, cap, cur, rfl, hb, hg, hn, hm, hs, hx⟩
  · have e0 : l = [] := List.eq_nil_of_length_eq_zero e
    subst e0
    refine (Tryz.slices_Compact_int_empty none 0 w).mono ?_
    rintro e w' ⟨rfl, rfl⟩
    exact ⟨none, 0, rfl, nil_ints _, ⟨rfl, rfl, rfl, Nat.le_refl _, fun _ _ _ => rfl⟩⟩
  · rw [ix_map] at hx
    have hH := holds_of_blockI (ss := l) hg (by simpa using hx)
    have hc := Tryz.slices_Compact_int g 0 cap l w hH (by omega) hn
    refine hc.mono ?_
    rintro e w' ⟨rfl, q, rfl⟩
    have hle := Lib.compact_length_le l
    obtain ⟨ts, hts⟩ : ∃ ts, ts = Lib.compact l ++ List.replicate (l.length - (Lib.compact l).length) 0 := ⟨_, rfl⟩
    rw [← hts]
    have hl : ts.length = l.length := by rw [hts]; simp; omega
    have ew : putRow (Value.int .i64) (Sort.ahead w q) g 0 ts.toArray = grow (putRow (Value.int .i64) (Sort.ahead w q) g 0 ts.toArray) #[] := (grow_nil _).symm
    have h2 := ownsRow_sortedI (n := q) (os := #[]) (base := base) (ts := ts) hl hb hg hn hm hs
    have h3 := grownBy_sortedI (w := w) (g := g) (n := q) (os := #[]) ts.toArray
    rw [← ew] at h2 h3
    have hgl := (Array.getElem?_eq_some_iff.1 hg).1
    have hcap : (Lib.compact l).length ≤ cap := by omega
    refine ⟨_, _, rfl, ⟨⟨_, cap, rfl, hcap, hm, by omega, fun _ => ⟨g, 0, rfl, ?_, fun i hi => ?_⟩⟩, hfit⟩, h3⟩
    · have := h3.size
      omega
    · have h4 := h2.cellAt i (by omega)
      rw [Nat.zero_add, h4]
      simp only [List.getElem?_map]
      rw [hts, List.getElem?_append_left hi, List.getElem?_eq_getElem hi]
      simp [ix, List.getD_eq_getElem?_getD, List.getElem?_eq_getElem hi]
end Go.Proofs.YtjodocheiejkeaaGreatDoor
