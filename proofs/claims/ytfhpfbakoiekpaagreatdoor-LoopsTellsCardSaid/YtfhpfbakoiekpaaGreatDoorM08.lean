/- My texts PermJ, NrmR, Rf27b, Pb0, PbL, PbV, Pb1, merged. -/
import Derived.Test.YtfhpfbakoiekpaaGreatDoorM02
import Derived.Test.YtfhpfbakoiekpaaGreatDoorM04
import Derived.Test.YtfhpfbakoiekpaaGreatDoorM07
import Derived.Test.YtfhpfbakoiekpaaGreatDoorM00
import Derived.Deep.DeepCutAuto
import Derived.RangeFuncNested
import Derived.RangeFuncBound
import Derived.RangeFuncCalls
import Derived.RangeFuncLeaves
import Derived.WalkKit
import Derived.OwnWalkIn
import Derived.TacticsInMore
import Derived.LoopNIn
import Derived.LoopIn
import Derived.Stop.RegionWithIn
import Derived.Shelf.Abstract

/- A region that draws its order, by what holds of the world when some of its operations have come up: each operation is met once, wherever it comes up. -/
namespace Go.Proofs.YtfhpfbakoiekpaaGreatDoor
open Go.RowKit

section
variable {P : Program} {l : List Oper} {D : Nat → Nat → Bool} {Q : Exit → Act → World → Prop} {a0 : Act}

theorem put_other {a b : Act} {d : Option Tmp} {v v' : Value} (hs : a.tmps.size = b.tmps.size) (h : a.put d v = a.put d v') : b.put d v = b.put d v' := by
  cases d with
  | none => rfl
  | some d =>
    by_cases hd : d < a.tmps.size
    · have h1 := congrArg (fun x : Act => x.tmps[d]?) h
      simp only [Act.put, Array.getElem?_setIfInBounds, hd, if_true] at h1
      rw [Option.some.inj h1]
    · have hb : ¬ d < b.tmps.size := by rw [← hs]; exact hd
      simp only [Act.put, Array.setIfInBounds, hb, dif_neg, not_false_eq_true]

/-- What one operation does, met with all that it waits for behind it. -/
def StepJ (P : Program) (l : List Oper) (a0 : Act) (W : (Nat → Value) → (Nat → Bool) → World → Prop) (i : Nat) (vals : Nat → Value) (L : Nat → Bool) (w : World) : Prop :=
  Region.wanted (opAt l i) (yielded l.toArray (Afr l a0 vals i).tmps) = true ∧
    (opAt l i).wp P (Afr l a0 vals i) w (fun a' w' => ∃ v, a' = (Afr l a0 vals i).put (opAt l i).dst v ∧ W (updN vals i v) (updN L i true) w') (fun _ _ _ => False)

theorem StepJ.of {W : (Nat → Value) → (Nat → Bool) → World → Prop} {i : Nat} {vals : Nat → Value} {L : Nat → Bool} {w : World} (hw : Region.wanted (opAt l i) (yielded l.toArray (Afr l a0 vals i).tmps) = true)
    (h : ∀ K : Act → World → Prop, (∀ v w', W (updN vals i v) (updN L i true) w' → K ((Afr l a0 vals i).put (opAt l i).dst v) w') → (opAt l i).wp P (Afr l a0 vals i) w K (fun _ _ _ => False)) : StepJ P l a0 W i vals L w :=
  ⟨hw, h _ fun v _ hW => ⟨v, rfl, hW⟩⟩

theorem any_inv (c : Chk l.toArray D) (ht : ∀ i, i < l.length → tame (opAt l i) = true) (W : (Nat → Value) → (Nat → Bool) → World → Prop)
    (hstep : ∀ i, i < l.length → ∀ vals L w, L i = false → (∀ j, j < l.length → D i j = true → L j = true) → (∀ k, k < l.length → L k = true → ∀ j, j < l.length → D k j = true → L j = true) → W vals L w → StepJ P l a0 W i vals L w)
    (hend : ∀ vals L w, (∀ i, i < l.length → L i = true) → W vals L w → Q .normal (Afr l a0 vals l.length) w) :
    ∀ (fuel : Nat) (listed : Array Bool) (w : World) (vals : Nat → Value), listed.size = l.length → unl listed l.length ≤ fuel →
      (∀ k, k < l.length → listed.getD k false = true → ∀ i, i < l.length → D k i = true → listed.getD i false = true) →
      W vals (fun j => listed.getD j false) w → wpAny P .any l.toArray Q fuel listed (fr l.toArray vals (fun j => listed.getD j false) a0 l.length) w := by
  intro fuel
  have hfin : ∀ (listed : Array Bool) (w : World) (vals : Nat → Value), listed.size = l.length → W vals (fun j => listed.getD j false) w → Region.ready .any l.toArray listed = [] → Q .normal (fr l.toArray vals (fun j => listed.getD j false) a0 l.length) w := by
    intro listed w vals hsz hw hr
    have hall := all_listed c hsz hr
    have e : fr l.toArray vals (fun j => listed.getD j false) a0 l.length = Afr l a0 vals l.length := fr_congr _ (fun k hk => ⟨hall k hk, fun _ => rfl⟩)
    rw [e]
    exact hend vals _ w hall hw
  induction fuel with
  | zero =>
    intro listed w vals hsz hfuel hcl hw
    have hr := ready_nil (l := l) hsz (unl_zero (listed := listed) l.length (by omega))
    exact ⟨hr, hfin listed w vals hsz hw hr⟩
  | succ fuel ih =>
    intro listed w vals hsz hfuel hcl hw
    refine ⟨hfin listed w vals hsz hw, fun i hir => ?_⟩
    obtain ⟨h0, o, ho, hdep⟩ := mem_ready.1 hir
    have hil : i < l.length := by have := (Array.getElem?_eq_some_iff.1 ho).1; simpa using this
    have hlt : i < listed.size := by omega
    obtain rfl : o = opAt l i := by rw [opAt_eq hil] at ho; exact (Option.some.inj ho).symm
    have hiun : listed.getD i false = false := by simp [hlt] at h0 ⊢; exact h0
    have hdeps := deps_listed c hcl hil hdep
    have hno : ∀ k, k < l.length → listed.getD k false = true → D k i = false := fun k hk hlk => by
      cases hd : D k i with
      | false => rfl
      | true => rw [hcl k hk hlk i hil hd] at hiun; cases hiun
    have hfuel' : unl (listed.setIfInBounds i true) l.length ≤ fuel := by have := (unl_set hlt hiun l.length).2 hil; omega
    have hsel : ∀ cs b, (opAt l i).op ≠ .select cs b := fun cs b => c.sel i _ cs b (opAt_eq hil)
    have hag := agree_real (a0 := a0) (v1 := vals) (vals := vals) c hil hiun hdeps hno (fun k hk hlk => rfl)
    obtain ⟨hwant, hwp⟩ := hstep i hil vals _ w hiun hdeps hcl hw
    have := wp_agree (Q := Q) hsel (ht i hil) hag hwp
    unfold wpOp
    simp only [opAt_eq hil]
    rw [← hag.wanted, hwant, if_pos rfl]
    refine .inl (Oper.wp_mono (fun b' w' ⟨v, hb', v2, hv2, hW⟩ => ?_) this)
    rw [hb', put_other hag.1 hv2, fr_step c hil hlt hiun hno]
    refine ih _ w' _ (by simpa using hsz) hfuel' (closed_set hlt hcl hdeps) ?_
    have e : (fun j => (listed.setIfInBounds i true).getD j false) = updN (fun j => listed.getD j false) i true := by
      funext j
      rw [getD_set hlt]
      rfl
    rw [e]
    exact hW

theorem wp_region_inv {id : Nat} {w : World} (W : (Nat → Value) → (Nat → Bool) → World → Prop) (hm : P.follows .mixedOrders = true) (hB : chk l.toArray (masks l) = true) (ht : l.all tame = true) (h0 : W (fun _ => undef) (fun _ => false) w.drew)
    (hstep : ∀ i, i < l.length → ∀ vals L w, L i = false → (∀ j, j < l.length → dm (masks l) i j = true → L j = true) → (∀ k, k < l.length → L k = true → ∀ j, j < l.length → dm (masks l) k j = true → L j = true) → W vals L w → StepJ P l a0 W i vals L w)
    (hend : ∀ vals L w, (∀ i, i < l.length → L i = true) → W vals L w → Q .normal (Afr l a0 vals l.length) w) : (Code.region id l.toArray true).wp P Q a0 w := by
  refine wp_region_any hm ?_
  have hun : ∀ k, unl (Array.replicate l.toArray.size false) k ≤ k := fun k => by
    induction k with
    | zero => exact Nat.le_refl _
    | succ k ih => unfold unl; split <;> omega
  have hf : ∀ j, (Array.replicate l.toArray.size false).getD j false = false := fun j => by
    simp only [Array.getD_eq_getD_getElem?, Array.getElem?_replicate]
    split <;> simp
  have hff : (fun j => (Array.replicate l.toArray.size false).getD j false) = fun _ => false := funext hf
  have htt : ∀ i, i < l.length → tame (opAt l i) = true := fun i hi => by
    have := List.all_eq_true.1 ht (l[i]) (List.getElem_mem hi)
    simpa [opAt, List.getD, hi] using this
  have := any_inv (Q := Q) (a0 := a0) (chk_spec hB) htt W hstep hend l.toArray.size (Array.replicate l.toArray.size false) { w with drawn := w.drawn + 1 } (fun _ => undef) (by simp) (by simpa using hun l.length)
    (fun k _ h => by rw [hf] at h; cases h) (by rw [hff]; exact h0)
  have e : ∀ k, fr l.toArray (fun _ => undef) (fun j => (Array.replicate l.toArray.size false).getD j false) a0 k = a0 := fun k => by
    induction k with
    | zero => rfl
    | succ k ih => rw [fr, if_neg (by rw [hf]; exact Bool.false_ne_true), ih]
  rw [e] at this
  exact this
end

end Go.Proofs.YtfhpfbakoiekpaaGreatDoor

/- pb.Norm: 'out.Lits, out.Coefs = append(out.Lits, v), append(out.Coefs, k)': what holds when some of the statement's operations have come up. -/
namespace Go.Proofs.YtfhpfbakoiekpaaGreatDoor
open Go.RowKit

def Far (u v : Value) : Prop := ∀ g, u.ownBlock = some g → v.ownBlock ≠ some g

/-- w: the world ahead of the statement; ob: the block of out. -/
structure TW (w : World) (ob : Nat) (v1 v2 bd : Value) (l1 l2 : List Int) (x y : Int) (vals : Nat → Value) (L : Nat → Bool) (wx : World) : Prop where
  below : Below ob w wx
  out : Blk wx ob [if L 11 then vals 4 else v1, if L 13 then vals 9 else v2, bd] 30
  r1 : QRow (ob + 1) wx (if L 4 then vals 4 else v1) (if L 4 then l1 ++ [x] else l1)
  r2 : QRow (ob + 1) wx (if L 9 then vals 9 else v2) (if L 9 then l2 ++ [y] else l2)
  far : Far (if L 4 then vals 4 else v1) (if L 9 then vals 9 else v2)
  t0 : L 0 = true → vals 0 = .pointer (some ⟨ob, 0, none⟩)
  t1 : L 1 = true → vals 1 = v1
  t2 : L 2 = true → vals 2 = .int .i64 x
  t3 : L 3 = true → L 4 = false → ∃ b, vals 3 = .slice (some ⟨b, 0, none⟩) 1 1 ∧ Blk wx b [.int .i64 x] 3
  t5 : L 5 = true → vals 5 = .pointer (some ⟨ob, 1, none⟩)
  t6 : L 6 = true → vals 6 = v2
  t7 : L 7 = true → vals 7 = .int .i64 y
  t8 : L 8 = true → L 9 = false → ∃ b, vals 8 = .slice (some ⟨b, 0, none⟩) 1 1 ∧ Blk wx b [.int .i64 y] 3 ∧ v1.ownBlock ≠ some b
  t10 : L 10 = true → vals 10 = .pointer (some ⟨ob, 0, none⟩)
  t12 : L 12 = true → vals 12 = .pointer (some ⟨ob, 1, none⟩)

section
variable {w : World} {ob : Nat} {v1 v2 bd : Value} {l1 l2 : List Int} {x y : Int} {vals : Nat → Value} {L : Nat → Bool} {wx : World}

theorem TW.start (hb : Blk w ob [v1, v2, bd] 30) (h1 : QRow (ob + 1) w v1 l1) (h2 : QRow (ob + 1) w v2 l2) (hf : Far v1 v2) : TW w ob v1 v2 bd l1 l2 x y (fun _ => undef) (fun _ => false) w.drew where
  below := (Below.refl _ _).drew
  out := hb
  r1 := h1
  r2 := h2
  far := hf
  t0 := fun h => Bool.noConfusion h
  t1 := fun h => Bool.noConfusion h
  t2 := fun h => Bool.noConfusion h
  t3 := fun h => Bool.noConfusion h
  t5 := fun h => Bool.noConfusion h
  t6 := fun h => Bool.noConfusion h
  t7 := fun h => Bool.noConfusion h
  t8 := fun h => Bool.noConfusion h
  t10 := fun h => Bool.noConfusion h
  t12 := fun h => Bool.noConfusion h

/-- What an operation that leaves the world alone must yield. -/
def quietV (ob : Nat) (v1 v2 : Value) (x y : Int) : Nat → Value
  | 0 => .pointer (some ⟨ob, 0, none⟩)
  | 1 => v1
  | 2 => .int .i64 x
  | 5 => .pointer (some ⟨ob, 1, none⟩)
  | 6 => v2
  | 7 => .int .i64 y
  | 10 => .pointer (some ⟨ob, 0, none⟩)
  | _ => .pointer (some ⟨ob, 1, none⟩)

theorem TW.quiet (h : TW w ob v1 v2 bd l1 l2 x y vals L wx) (i : Nat) (hi : i = 0 ∨ i = 1 ∨ i = 2 ∨ i = 5 ∨ i = 6 ∨ i = 7 ∨ i = 10 ∨ i = 12) : TW w ob v1 v2 bd l1 l2 x y (updN vals i (quietV ob v1 v2 x y i)) (updN L i true) wx := by
  obtain ⟨h1, h2, h3, h4, h5, t0, t1, t2, t3, t5, t6, t7, t8, t10, t12⟩ := h
  rcases hi with rfl | rfl | rfl | rfl | rfl | rfl | rfl | rfl <;> constructor <;> first | (simp [updN, quietV]; done) | simpa [updN, quietV]

theorem TW.build3 (h : TW w ob v1 v2 bd l1 l2 x y vals L wx) : TW w ob v1 v2 bd l1 l2 x y (updN vals 3 (.slice (some ⟨wx.heap.size, 0, none⟩) 1 1)) (updN L 3 true) (wx.alloc (.cells #[.int .i64 x] 3)) := by
  have hal := bal (Below.refl wx.heap.size wx) (.cells #[.int .i64 x] 3)
  have hb := Blk.new wx [.int .i64 x] 3
  have hout := h.out.alloc (.cells #[.int .i64 x] 3)
  have h1 := h.r1.below hal
  have h2 := h.r2.below hal
  have h0 := h.below.trans (hal.mono (by have := h.out.lt; omega))
  obtain ⟨-, -, -, -, h5, t0, t1, t2, t3, t5, t6, t7, t8, t10, t12⟩ := h
  constructor <;> try (first | (simp [updN]; done) | simpa [updN])
  · intro _ _; exact ⟨_, by simp [updN], hb⟩
  · intro e1 e2
    simp only [updN, Nat.reduceEqDiff, if_false] at e1 e2
    obtain ⟨b, e, k, k2⟩ := t8 e1 e2
    exact ⟨b, by simpa [updN] using e, k.alloc _, k2⟩

theorem TW.build8 (h : TW w ob v1 v2 bd l1 l2 x y vals L wx) (hx : ∀ g, v1.ownBlock = some g → g < wx.heap.size) : TW w ob v1 v2 bd l1 l2 x y (updN vals 8 (.slice (some ⟨wx.heap.size, 0, none⟩) 1 1)) (updN L 8 true) (wx.alloc (.cells #[.int .i64 y] 3)) := by
  have hal := bal (Below.refl wx.heap.size wx) (.cells #[.int .i64 y] 3)
  have hb := Blk.new wx [.int .i64 y] 3
  have hout := h.out.alloc (.cells #[.int .i64 y] 3)
  have h1 := h.r1.below hal
  have h2 := h.r2.below hal
  have h0 := h.below.trans (hal.mono (by have := h.out.lt; omega))
  obtain ⟨-, -, -, -, h5, t0, t1, t2, t3, t5, t6, t7, t8, t10, t12⟩ := h
  constructor <;> try (first | (simp [updN]; done) | simpa [updN])
  · intro e1 e2
    simp only [updN, Nat.reduceEqDiff, if_false] at e1 e2
    obtain ⟨b, e, k⟩ := t3 e1 e2
    exact ⟨b, by simpa [updN] using e, k.alloc _⟩
  · intro _ _; exact ⟨_, by simp [updN], hb, fun e => by have := hx _ e; omega⟩

theorem below_row {n : Nat} {w w' : World} {u : Value} (h : w.grownBy w' u.ownBlock) (hn : n ≤ w.heap.size) (hu : ∀ g, u.ownBlock = some g → n ≤ g) : Below n w w' :=
  ⟨h.os, h.tape, h.output, h.size, fun i hi => h.block i (by omega) (fun e => by have := hu i e.symm; omega)⟩

theorem QRow.base {base : Nat} {w : World} {v : Value} {l : List Int} (h : QRow base w v l) {g : Nat} (e : v.ownBlock = some g) : base ≤ g ∧ g < w.heap.size := by
  rcases h.2 with ⟨rfl, _⟩ | ⟨g', off, cap, cur, rfl, hb, hg, _⟩
  · cases e
  · simp only [Value.ownBlock, Option.some.injEq] at e
    subst e
    exact ⟨hb, (Array.getElem?_eq_some_iff.1 hg).1⟩

theorem TW.app4 (h : TW w ob v1 v2 bd l1 l2 x y vals L wx) (h4 : L 4 = false) (h9 : L 9 = false) (h11 : L 11 = false) {v' : Value} {w' : World} (hq : QRow (ob + 1) w' v' (l1 ++ [x])) (hg : wx.grownBy w' v1.ownBlock) (ho : v'.ownBlock = v1.ownBlock ∨ v'.ownBlock = some wx.heap.size) :
    TW w ob v1 v2 bd l1 l2 x y (updN vals 4 v') (updN L 4 true) w' := by
  have hout := h.out
  have hr1 := h.r1
  have hr2 := h.r2
  have hf := h.far
  have hbl := h.below
  have hlt := hout.lt
  rw [h4] at hr1 hf
  rw [h9] at hr2 hf
  simp only [Bool.false_eq_true, if_false] at hr1 hr2 hf
  have hb : Below ob w w' := hbl.trans (below_row hg (by omega) (fun g e => by have := (hr1.base e).1; omega))
  have hr2' : QRow (ob + 1) w' v2 l2 := hr2.kept fun i h1 h2 h3 => hg.block i h2 (fun e => hf i e.symm h3)
  have hf' : Far v' v2 := fun g e e2 => by
    rcases ho with h1 | h1
    · exact hf g (h1 ▸ e) e2
    · rw [h1] at e
      have := (hr2.base e2).2
      have := Option.some.inj e
      omega
  have hout' : Blk w' ob [if L 11 then vals 4 else v1, if L 13 then vals 9 else v2, bd] 30 := hout.same (hg.block ob hlt (fun e => by have := (hr1.base e.symm).1; omega))
  obtain ⟨-, -, -, -, -, t0, t1, t2, t3, t5, t6, t7, t8, t10, t12⟩ := h
  have n11 : L 11 = false := h11
  rw [n11] at hout'
  simp only [Bool.false_eq_true, if_false] at hout'
  constructor
  · exact hb
  · simpa [updN, n11] using hout'
  · simpa [updN] using hq
  · simpa [updN, h9] using hr2'
  · simpa [updN, h9] using hf'
  · simpa [updN] using t0
  · simpa [updN] using t1
  · simpa [updN] using t2
  · intro _ e; simp [updN] at e
  · simpa [updN] using t5
  · simpa [updN] using t6
  · simpa [updN] using t7
  · intro e1 e2
    simp only [updN, Nat.reduceEqDiff, if_false] at e1 e2
    obtain ⟨b, e, k, k2⟩ := t8 e1 e2
    exact ⟨b, by simpa [updN] using e, k.same (hg.block b k.lt (fun e3 => k2 e3.symm)), k2⟩
  · simpa [updN] using t10
  · simpa [updN] using t12

theorem TW.app9 (h : TW w ob v1 v2 bd l1 l2 x y vals L wx) (h4 : L 4 = true) (h9 : L 9 = false) (h13 : L 13 = false) {v' : Value} {w' : World} (hq : QRow (ob + 1) w' v' (l2 ++ [y])) (hg : wx.grownBy w' v2.ownBlock) (ho : v'.ownBlock = v2.ownBlock ∨ v'.ownBlock = some wx.heap.size) :
    TW w ob v1 v2 bd l1 l2 x y (updN vals 9 v') (updN L 9 true) w' := by
  have hout := h.out
  have hr1 := h.r1
  have hr2 := h.r2
  have hf := h.far
  have hbl := h.below
  have hlt := hout.lt
  rw [h4] at hr1 hf
  rw [h9] at hr2 hf
  simp only [Bool.false_eq_true, if_false, if_true] at hr1 hr2 hf
  have hb : Below ob w w' := hbl.trans (below_row hg (by omega) (fun g e => by have := (hr2.base e).1; omega))
  have hr1' : QRow (ob + 1) w' (vals 4) (l1 ++ [x]) := hr1.kept fun i h1 h2 h3 => hg.block i h2 (fun e => hf i h3 e.symm)
  have hf' : Far (vals 4) v' := fun g e e2 => by
    rcases ho with h1 | h1
    · exact hf g e (h1 ▸ e2)
    · rw [h1] at e2
      have := (hr1.base e).2
      have := Option.some.inj e2
      omega
  have hout' : Blk w' ob [if L 11 then vals 4 else v1, if L 13 then vals 9 else v2, bd] 30 := hout.same (hg.block ob hlt (fun e => by have := (hr2.base e.symm).1; omega))
  obtain ⟨-, -, -, -, -, t0, t1, t2, t3, t5, t6, t7, t8, t10, t12⟩ := h
  rw [h13] at hout'
  simp only [Bool.false_eq_true, if_false] at hout'
  constructor
  · exact hb
  · simpa [updN, h13] using hout'
  · simpa [updN, h4] using hr1'
  · simpa [updN] using hq
  · simpa [updN, h4] using hf'
  · simpa [updN] using t0
  · simpa [updN] using t1
  · simpa [updN] using t2
  · intro _ e; simp [updN, h4] at e
  · simpa [updN] using t5
  · simpa [updN] using t6
  · simpa [updN] using t7
  · intro _ e; simp [updN] at e
  · simpa [updN] using t10
  · simpa [updN] using t12

theorem TW.store (h : TW w ob v1 v2 bd l1 l2 x y vals L wx) (i : Nat) (h4 : L 4 = true) (h9 : L 9 = true) (hi : i = 11 ∨ i = 13) (u : Value) :
    TW w ob v1 v2 bd l1 l2 x y (updN vals i u) (updN L i true) (wx.setCell ⟨ob, if i = 11 then 0 else 1, none⟩ (if i = 11 then vals 4 else vals 9)) := by
  have hout := h.out
  have hlt := hout.lt
  have hb : Below ob w (wx.setCell ⟨ob, if i = 11 then 0 else 1, none⟩ (if i = 11 then vals 4 else vals 9)) := h.below.setCell (p := ⟨ob, _, none⟩) (Nat.le_refl _) _
  have hr1 : QRow (ob + 1) (wx.setCell ⟨ob, if i = 11 then 0 else 1, none⟩ (if i = 11 then vals 4 else vals 9)) _ _ := h.r1.kept fun k h1 h2 _ => by
    simp only [World.setCell]
    rw [Array.getElem?_modify]
    rw [if_neg (by omega)]
  have hr2 : QRow (ob + 1) (wx.setCell ⟨ob, if i = 11 then 0 else 1, none⟩ (if i = 11 then vals 4 else vals 9)) _ _ := h.r2.kept fun k h1 h2 _ => by
    simp only [World.setCell]
    rw [Array.getElem?_modify]
    rw [if_neg (by omega)]
  have hs := hout.set (if i = 11 then 0 else 1) (if i = 11 then vals 4 else vals 9)
  obtain ⟨-, -, -, -, h5, t0, t1, t2, t3, t5, t6, t7, t8, t10, t12⟩ := h
  rw [h4] at hr1 h5
  rw [h9] at hr2 h5
  simp only [if_true] at hr1 hr2 h5
  rcases hi with rfl | rfl
  · simp only [if_true, List.set_cons_zero] at hs hb hr1 hr2 ⊢
    constructor
    · exact hb
    · simpa [updN] using hs
    · simpa [updN, h4] using hr1
    · simpa [updN, h9] using hr2
    · simpa [updN, h4, h9] using h5
    · simpa [updN] using t0
    · simpa [updN] using t1
    · simpa [updN] using t2
    · intro _ e; simp [updN, h4] at e
    · simpa [updN] using t5
    · simpa [updN] using t6
    · simpa [updN] using t7
    · intro _ e; simp [updN, h9] at e
    · simpa [updN] using t10
    · simpa [updN] using t12
  · simp only [Nat.reduceEqDiff, if_false, List.set_cons_zero, List.set_cons_succ] at hs hb hr1 hr2 ⊢
    constructor
    · exact hb
    · simpa [updN] using hs
    · simpa [updN, h4] using hr1
    · simpa [updN, h9] using hr2
    · simpa [updN, h4, h9] using h5
    · simpa [updN] using t0
    · simpa [updN] using t1
    · simpa [updN] using t2
    · intro _ e; simp [updN, h4] at e
    · simpa [updN] using t5
    · simpa [updN] using t6
    · simpa [updN] using t7
    · intro _ e; simp [updN, h9] at e
    · simpa [updN] using t10
    · simpa [updN] using t12

theorem TW.end (h : TW w ob v1 v2 bd l1 l2 x y vals L wx) (hL : ∀ i, i < 14 → L i = true) : Blk wx ob [vals 4, vals 9, bd] 30 ∧ QRow (ob + 1) wx (vals 4) (l1 ++ [x]) ∧ QRow (ob + 1) wx (vals 9) (l2 ++ [y]) ∧ Far (vals 4) (vals 9) ∧ Below ob w wx := by
  have h0 := h.out
  have h1 := h.r1
  have h2 := h.r2
  have h3 := h.far
  rw [hL 11 (by omega), hL 13 (by omega)] at h0
  rw [hL 4 (by omega)] at h1 h3
  rw [hL 9 (by omega)] at h2 h3
  exact ⟨h0, h1, h2, h3, h.below⟩
end

end Go.Proofs.YtfhpfbakoiekpaaGreatDoor

/- ostlerref27: Set, False. -/
namespace Go.Proofs.YtfhpfbakoiekpaaGreatDoor
open Go.RowKit

set_option maxHeartbeats 1000000 in
theorem rset27_any (v vm : Value) (p : GP) (S : List Int) (w : World) (h : ProgIs w v p) (hm : Ints w vm S) :
    Calls Tryz.prog 41 #[v, vm] w fun e w' => e = .returned (.bool (setB' p.n S)) ∧ Below w.heap.size w w' := by
  have h0 := h
  obtain ⟨vn, vs, vr, vmn, rfl, -⟩ := h
  obtain ⟨a1, c1, rfl, -, hl1, -, -⟩ := hm.form
  have hal := bal (Below.refl w.heap.size w) (.cells #[.int .i64 p.n, vn, vs, vr, vmn] 27)
  have HAL := Lib.hid hal
  have kx := (Blk.new w [.int .i64 p.n, vn, vs, vr, vmn] 27).cell
  have HC := Lib.hid (rset_any _ _ p S _ (h0.below hal) (hm.below hal))
  have HF : Hid (setB' p.n S = (setQ p.n S && decide (0 < S.length))) := Lib.hid rfl
  clear h0 hm hal
  go_enter Tryz.func41, Tryz.ntmps41
  go_upto_region 1 with fail
  generalize w.alloc (.cells #[.int .i64 p.n, vn, vs, vr, vmn] 27) = W0 at *
  by_cases h0 : 0 < S.length
  · have HN : Hid (setB' p.n S = setQ p.n S) := Lib.hid (by rw [HF.out, decide_eq_true h0, Bool.and_true])
    go_wp2_with (go_at_call 65; (with_reducible refine (HC.out).mono ?_); rintro e w1 ⟨rfl, hb1⟩; have HB1 := Lib.hid (bon HAL.out hb1); clear hb1)
    go_ret
    exact ⟨ret_bool HN.out.symm, HB1.out⟩
  · have HN : Hid (setB' p.n S = false) := Lib.hid (by rw [HF.out, decide_eq_false h0, Bool.and_false])
    go_wp2
    go_ret
    exact ⟨ret_bool HN.out.symm, HAL.out⟩

/-! ### False -/
def valP (a : List Int) (n : Nat) : Int := if n ≤ a.length then (if 0 < ix a (n - 1) then 1 else if ix a (n - 1) < 0 then -1 else 0) else 0
def falTo (a : List Int) : Nat → List Int
  | 0 => []
  | k + 1 => falTo a k ++ (if valP a (k + 1) = -1 then [((k : Int) + 1)] else if valP a (k + 1) = 1 then [-((k : Int) + 1)] else [])
def falL (p : GP) (a : List Int) : List Int := falTo a (p.n + p.rules.length).toNat

theorem valP_cases (a : List Int) (n : Nat) : valP a n = -1 ∨ valP a n = 1 ∨ valP a n = 0 := by
  unfold valP
  split
  · split
    · exact .inr (.inl rfl)
    · split
      · exact .inl rfl
      · exact .inr (.inr rfl)
  · exact .inr (.inr rfl)

theorem falTo_len (a : List Int) : ∀ k, (falTo a k).length ≤ k
  | 0 => by simp [falTo]
  | k + 1 => by
    have := falTo_len a k
    unfold falTo
    rw [List.length_append]
    split
    · simp; omega
    · split <;> simp <;> omega

theorem falTo_mem {a : List Int} {l : Int} : ∀ k, l ∈ falTo a k ↔ ∃ j : Nat, j < k ∧ (l = (j : Int) + 1 ∧ valP a (j + 1) = -1 ∨ l = -((j : Int) + 1) ∧ valP a (j + 1) = 1)
  | 0 => by simp [falTo]
  | k + 1 => by
    unfold falTo
    rw [List.mem_append, falTo_mem k]
    constructor
    · rintro (⟨j, hj, h⟩ | h)
      · exact ⟨j, by omega, h⟩
      · refine ⟨k, by omega, ?_⟩
        split at h
        · rename_i hv; exact .inl ⟨by simpa using h, hv⟩
        · split at h
          · rename_i hv; exact .inr ⟨by simpa using h, hv⟩
          · cases h
    · rintro ⟨j, hj, h⟩
      by_cases e : j = k
      · subst e
        refine .inr ?_
        rcases h with ⟨rfl, hv⟩ | ⟨rfl, hv⟩
        · rw [if_pos hv]; simp
        · rw [if_neg (by omega), if_pos hv]; simp
      · exact .inl ⟨j, by omega, h⟩

/-- A literal lies in the list of the false ones exactly if it is false. -/
theorem falTo_off {a : List Int} {l : Int} {N : Nat} (h0 : l ≠ 0) (h1 : l.natAbs ≤ N) : decide (l ∈ falTo a N) = offB a l := by
  rw [Bool.eq_iff_iff, decide_eq_true_eq, falTo_mem]
  obtain ⟨n, hn1, hln⟩ : ∃ n : Nat, 1 ≤ n ∧ (l = n ∨ l = -(n : Int)) := ⟨l.natAbs, by omega, by omega⟩
  rcases hln with rfl | rfl
  · rw [offB_pos a n hn1]
    simp only [Bool.and_eq_true, decide_eq_true_eq]
    constructor
    · rintro ⟨j, hj, ⟨e, hv⟩ | ⟨e, hv⟩⟩
      · obtain rfl : j + 1 = n := by omega
        unfold valP at hv
        split at hv
        · split at hv
          · omega
          · split at hv <;> first | omega | refine ⟨⟨by assumption, by omega⟩, by omega⟩
        · omega
      · omega
    · rintro ⟨⟨h2, h3⟩, h4⟩
      refine ⟨n - 1, by omega, .inl ⟨by omega, ?_⟩⟩
      rw [show n - 1 + 1 = n by omega]
      unfold valP
      rw [if_pos h2, if_neg h4, if_pos (by omega)]
  · rw [offB_neg a n]
    simp only [Bool.and_eq_true, decide_eq_true_eq]
    constructor
    · rintro ⟨j, hj, ⟨e, hv⟩ | ⟨e, hv⟩⟩
      · omega
      · obtain rfl : j + 1 = n := by omega
        unfold valP at hv
        split at hv
        · split at hv
          · refine ⟨⟨by assumption, by omega⟩, by omega⟩
          · split at hv <;> omega
        · omega
    · rintro ⟨⟨h2, h3⟩, h4⟩
      refine ⟨n - 1, by omega, .inr ⟨by omega, ?_⟩⟩
      rw [show n - 1 + 1 = n by omega]
      unfold valP
      rw [if_pos h2, if_pos h4]

set_option maxHeartbeats 1000000 in
theorem value_pos (va : Value) (a : List Int) (w : World) (h : Bytes8 w va a) (n : Nat) (hn1 : 1 ≤ n) (hn : (n : Int) ≤ 4611686018427387904) :
    Calls Tryz.prog 90 #[va, .int .i64 n] w fun e w' => e = .returned (.int .i64 (valP a n)) ∧ w = w' := by
  obtain ⟨⟨ad, cap, rfl, hcap, hmx, -, hc⟩, hb8⟩ := h
  have e8 : a.length < 9223372036854775808 := by unfold maxLen at hmx; omega
  have HV0 : Hid (valP a n = if n ≤ a.length then (if 0 < ix a (n - 1) then 1 else if ix a (n - 1) < 0 then -1 else 0) else 0) := Lib.hid rfl
  by_cases h1 : n ≤ a.length
  · obtain ⟨b0, off0, rfl, hbl, hcc⟩ := hc (by omega)
    have hk : w.cell? ⟨b0, off0 + (n - 1), none⟩ = some (.int .i8 (ix a (n - 1))) := hcc (n - 1) (by omega)
    have hb := hb8 (n - 1)
    rw [if_pos h1] at HV0
    clear hcc hc hb8
    generalize ix a (n - 1) = y at *
    by_cases y0 : y = 0
    · subst y0
      have HV : Hid (valP a n = 0) := Lib.hid (by rw [HV0.out]; rfl)
      clear HV0
      go_enter Tryz.func90, Tryz.ntmps90
      go_wp2
      go_ret
      exact ⟨ret_int HV.out.symm, rfl⟩
    · have hy0 : (y == 0) = false := by simp; omega
      by_cases y1 : 0 < y
      · have HV : Hid (valP a n = 1) := Lib.hid (by rw [HV0.out, if_pos y1])
        clear HV0 y0
        go_enter Tryz.func90, Tryz.ntmps90
        go_wp2
        go_ret
        exact ⟨ret_int HV.out.symm, rfl⟩
      · have y2 : y < 0 := by omega
        have HV : Hid (valP a n = -1) := Lib.hid (by rw [HV0.out, if_neg y1, if_pos y2])
        clear HV0 y0
        go_enter Tryz.func90, Tryz.ntmps90
        go_wp2
        go_ret
        exact ⟨ret_int HV.out.symm, rfl⟩
  · have HV : Hid (valP a n = 0) := Lib.hid (by rw [HV0.out, if_neg h1])
    clear hc hb8 HV0
    go_enter Tryz.func90, Tryz.ntmps90
    go_wp2
    go_ret
    exact ⟨ret_int HV.out.symm, rfl⟩

def FaRel (p : GP) (a : List Int) (w W0 : World) (c : List Value) (o i : Value) (wx : World) : Prop :=
  ∃ k : Nat, (k : Int) ≤ p.n + p.rules.length ∧ i = .int .i64 ((k : Int) + 1) ∧ (∃ ad n cp, o = .slice ad n cp) ∧ QRow W0.heap.size wx o (falTo a k) ∧ Blk wx w.heap.size c 27 ∧ Below W0.heap.size W0 wx

set_option maxHeartbeats 4000000 in
set_option maxRecDepth 100000 in
theorem rfal_any (v va : Value) (p : GP) (a : List Int) (w : World) (h : ProgIs w v p) (ha : Bytes8 w va a) (hv : validE p = 0) :
    Calls Tryz.prog 32 #[v, va] w fun e w' => ∃ vd, e = .returned vd ∧ QRow w.heap.size w' vd (falL p a) ∧ Below w.heap.size w w' := by
  obtain ⟨vn, vs, vr, vmn, rfl, hPS⟩ := h
  obtain ⟨a1, c1, rfl, -, hl1, -, -⟩ := hPS.rules.form
  obtain ⟨a2, n2, c2, rfl⟩ : ∃ x n c, va = .slice x n c := by
    obtain ⟨⟨x, c, rfl, -⟩, -⟩ := ha
    exact ⟨_, _, _, rfl⟩
  have hal := bal (Below.refl w.heap.size w) (.cells #[.int .i64 p.n, vn, vs, .slice a1 p.rules.length c1, vmn] 27)
  have HAL := Lib.hid hal
  have HBK := Lib.hid (Blk.new w [.int .i64 p.n, vn, vs, .slice a1 p.rules.length c1, vmn] 27)
  have HA := Lib.hid (ha.below hal)
  have hn0 := (validP hv).n
  have hr0 := (validP hv).rules
  have hz0 := HBK.out.lt
  clear ha hal hPS
  go_enter Tryz.func32, Tryz.ntmps32
  go_upto_region 3 with fail
  generalize w.alloc (.cells #[.int .i64 p.n, vn, vs, .slice a1 p.rules.length c1, vmn] 27) = W0 at *
  go_loopw [5, 6] (fun o i wx => FaRel p a w W0 [.int .i64 p.n, vn, vs, .slice a1 p.rules.length c1, vmn] o i wx) (fun _ i _ => (p.n + p.rules.length + 1 - intOf i).toNat)
  case atStart => exact ⟨0, by omega, rfl, ⟨_, _, _, rfl⟩, QRow.nil _ _, HBK.out, Below.refl _ _⟩
  case round =>
    obtain ⟨k, hk, rfl, ⟨ao, no, co, rfl⟩, hq, hbx, hb⟩ := hrel
    have kx := hbx.cell
    have HX := Lib.hid hbx
    have HB := Lib.hid hb
    have HQ := Lib.hid hq
    have hzr := hb.size
    have hfl := falTo_len a k
    by_cases hlt : (k : Int) + 1 ≤ p.n + p.rules.length
    · obtain ⟨x, hx⟩ : ∃ x, (k : Int) + 1 = x := ⟨_, rfl⟩
      rw [hx]
      have HX1 := Lib.hid hx
      have hxr : 1 ≤ x ∧ x ≤ 50000 ∧ x ≤ p.n + p.rules.length := by omega
      have HY := Lib.hid (HA.out.below hb)
      have HVC : Hid (∀ w, Bytes8 w (.slice a2 n2 c2) a → Calls Tryz.prog 90 #[.slice a2 n2 c2, .int .i64 x] w fun e w' => e = .returned (.int .i64 (valP a (k + 1))) ∧ w = w') := Lib.hid (fun w h => by rw [← HX1.out]; exact value_pos _ a w h (k + 1) (by omega) (by omega))
      have HN : Hid (falTo a (k + 1) = falTo a k ++ (if valP a (k + 1) = -1 then [x] else if valP a (k + 1) = 1 then [-x] else [])) := Lib.hid (by rw [← hx]; rfl)
      have HI1 : Hid (InI x) := Lib.hid (by unfold InI; omega)
      have HI2 : Hid (InI (-x)) := Lib.hid (by unfold InI; omega)
      have hwn : IntKind.i64.wrap (-x) = -x := by rw [IntKind.wrap_i64]; omega
      clear hq hbx hb hx
      rcases valP_cases a (k + 1) with hc | hc | hc
      · rw [hc, if_pos rfl] at HN
        have HVP := Lib.hid hc
        clear hc
        have hal2 := bal (Below.refl wr.heap.size wr) (.cells #[.int .i64 x] 3)
        have HQ2 := Lib.hid (HQ.out.below hal2)
        clear hal2
        go_wp2_with (first
          | (go_at_call 90; (with_reducible refine (HVC.out _ HY.out).mono ?_); rintro e w1 ⟨e1, rfl⟩; rw [HVP.out] at e1; subst e1)
          | (at_builtin; go_must (refine wpList_appendQ rfl _ _ 23 Tryz.underlying23 rfl W0.heap.size _ (falTo a k) x rfl HQ2.out wr.heap.size 1 rfl (Blk.new wr [.int .i64 x] _) HI1.out (by omega) (by simp; omega) ?_; intro v5 w5 hq5 hg5 ho5; have hb5 := below_grown HB.out (fun g e => (HQ.out.base e).1) hg5; have HB5 := Lib.hid hb5; have HX5 := Lib.hid (HBK.out.below hb5); have HQ5 := Lib.hid hq5; have HY := Lib.hid (HA.out.below hb5); obtain ⟨a5, n5, c5, rfl⟩ := hq5.form; clear hq5 hg5 ho5 hb5)))
        go_roundw
        case rel => exact ⟨k + 1, by (have := HX1.out; omega), by (rw [← HX1.out]; push_cast; rfl), ⟨_, _, _, rfl⟩, by rw [HN.out]; exact HQ5.out, HX5.out, HB5.out⟩
        case measure => (have := HX1.out; simp [intOf]; omega)
      · rw [hc, if_neg (by decide), if_pos rfl] at HN
        have HVP := Lib.hid hc
        clear hc
        have hal2 := bal (Below.refl wr.heap.size wr) (.cells #[.int .i64 (-x)] 3)
        have HQ2 := Lib.hid (HQ.out.below hal2)
        clear hal2
        go_wp2_with (first
          | (go_at_call 90; (with_reducible refine (HVC.out _ HY.out).mono ?_); rintro e w1 ⟨e1, rfl⟩; rw [HVP.out] at e1; subst e1)
          | (at_builtin; refine wpList_appendQ rfl _ _ 23 Tryz.underlying23 rfl W0.heap.size _ (falTo a k) (-x) rfl HQ2.out wr.heap.size 1 rfl (Blk.new wr [.int .i64 (-x)] _) HI2.out (by omega) (by simp; omega) ?_; intro v5 w5 hq5 hg5 ho5; have hb5 := below_grown HB.out (fun g e => (HQ.out.base e).1) hg5; have HB5 := Lib.hid hb5; have HX5 := Lib.hid (HBK.out.below hb5); have HQ5 := Lib.hid hq5; obtain ⟨a5, n5, c5, rfl⟩ := hq5.form; clear hq5 hg5 ho5 hb5))
        go_roundw
        case rel => exact ⟨k + 1, by (have := HX1.out; omega), by (rw [← HX1.out]; push_cast; rfl), ⟨_, _, _, rfl⟩, by rw [HN.out]; exact HQ5.out, HX5.out, HB5.out⟩
        case measure => (have := HX1.out; simp [intOf]; omega)
      · rw [hc, if_neg (by decide), if_neg (by decide), List.append_nil] at HN
        have HVP := Lib.hid hc
        clear hc
        go_wp2_with (go_at_call 90; (with_reducible refine (HVC.out _ HY.out).mono ?_); rintro e w1 ⟨e1, rfl⟩; rw [HVP.out] at e1; subst e1)
        go_roundw
        case rel => exact ⟨k + 1, by (have := HX1.out; omega), by (rw [← HX1.out]; push_cast; rfl), ⟨_, _, _, rfl⟩, by rw [HN.out]; exact HQ.out, HX.out, HB.out⟩
        case measure => (have := HX1.out; simp [intOf]; omega)
    · have HF : Hid (falL p a = falTo a k) := Lib.hid (by unfold falL; congr 1; omega)
      clear hq hbx hb
      go_wp2
      go_ret
      exact ⟨_, rfl, by rw [HF.out]; exact HQ.out.mono (Nat.le_of_lt hz0), HAL.out.trans (HB.out.mono HAL.out.size)⟩

end Go.Proofs.YtfhpfbakoiekpaaGreatDoor

/- Pseudo-Boolean constraints: Lean data, the normal form as a plain function. -/
namespace Go.Proofs.YtfhpfbakoiekpaaGreatDoor

/-- A constraint. -/
structure PBC where
  lits : List Int
  coefs : List Int
  bound : Int
  deriving Inhabited, DecidableEq

def plitB (l : Int) : Bool := decide (l ≠ 0 ∧ -65536 ≤ l ∧ l ≤ 65536)

/-- The coefficient of variable v in the first i literals. -/
def byTo (L K : List Int) (v : Int) : Nat → Int
  | 0 => 0
  | i + 1 => byTo L K v i + (if ix L i = v then ix K i else if ix L i = -v then -ix K i else 0)

/-- The coefficients of the negative ones of the first i literals. -/
def negTo (L K : List Int) : Nat → Int
  | 0 => 0
  | i + 1 => negTo L K i + (if ix L i < 0 then ix K i else 0)

def insK (v : Int) : List Int → List Int
  | [] => [v]
  | x :: l => if v < x then v :: x :: l else if v = x then x :: l else x :: insK v l

/-- The variables, in increasing order. -/
def keysOf : List Int → List Int
  | [] => []
  | l :: L => insK (l.natAbs : Int) (keysOf L)

def sumI (f : Int → Int) : List Int → Int
  | [] => 0
  | x :: l => f x + sumI f l

def lowI (x : Int) : Int := if x < 0 then x else 0
def absI (x : Int) : Int := if x < 0 then -x else x
def minI (x y : Int) : Int := if x ≤ y then x else y

/-- What Norm does to the variables that have a coefficient. -/
def litOf (by' : Int → Int) (v : Int) : Int := if by' v < 0 then -v else v

def pokAt (L K : List Int) (i : Nat) : Bool := plitB (ix L i) && decide (-16777216 ≤ ix K i ∧ ix K i ≤ 16777216)

def normC (by' : Int → Int) (V : List Int) (bd : Int) : PBC × Int :=
  if bd ≤ 0 then (⟨[], [], 0⟩, 0)
  else if sumI (fun v => minI (absI (by' v)) bd) V < bd then (⟨[], [], 1⟩, 0)
  else if 16777216 < bd then (⟨[], [], 0⟩, 3)
  else (⟨V.map (litOf by'), V.map (fun v => minI (absI (by' v)) bd), bd⟩, 0)

/-- The normal form and the error. -/
def normP (L K : List Int) (B : Int) : PBC × Int :=
  if L.length ≠ K.length ∨ 65536 < L.length ∨ B < -1099511627776 ∨ 1099511627776 < B then (⟨[], [], 0⟩, 2)
  else if allR L.length (pokAt L K) = false then (⟨[], [], 0⟩, 2)
  else normC (fun v => byTo L K v L.length) ((keysOf L).filter fun v => byTo L K v L.length != 0) (B - negTo L K L.length - sumI (fun v => lowI (byTo L K v L.length)) (keysOf L))

/-! ### The variables -/
theorem mem_insK {v x : Int} : ∀ {l : List Int}, x ∈ insK v l ↔ x = v ∨ x ∈ l
  | [] => by simp [insK]
  | y :: l => by
    unfold insK
    split
    · simp
    · split
      · rename_i h; subst h; simp
      · rw [List.mem_cons, mem_insK, List.mem_cons]
        constructor
        · rintro (h | h | h)
          · exact .inr (.inl h)
          · exact .inl h
          · exact .inr (.inr h)
        · rintro (h | h | h)
          · exact .inr (.inl h)
          · exact .inl h
          · exact .inr (.inr h)

theorem insK_sorted {v : Int} : ∀ {l : List Int}, l.Pairwise (· < ·) → (insK v l).Pairwise (· < ·)
  | [], _ => by simp [insK]
  | y :: l, h => by
    obtain ⟨h1, h2⟩ := List.pairwise_cons.1 h
    unfold insK
    split
    · rename_i hv
      refine List.pairwise_cons.2 ⟨fun z hz => ?_, h⟩
      rcases List.mem_cons.1 hz with rfl | hz
      · exact hv
      · have := h1 z hz; omega
    · split
      · exact h
      · rename_i hv hne
        refine List.pairwise_cons.2 ⟨fun z hz => ?_, insK_sorted h2⟩
        rcases mem_insK.1 hz with rfl | hz
        · omega
        · exact h1 z hz

theorem mem_keys {x : Int} : ∀ {L : List Int}, x ∈ keysOf L ↔ ∃ l ∈ L, (l.natAbs : Int) = x
  | [] => by simp [keysOf]
  | l :: L => by
    unfold keysOf
    rw [mem_insK, mem_keys]
    constructor
    · rintro (h | ⟨y, hy, e⟩)
      · exact ⟨l, .head _, h.symm⟩
      · exact ⟨y, .tail _ hy, e⟩
    · rintro ⟨y, hy, e⟩
      rcases List.mem_cons.1 hy with rfl | hy
      · exact .inl e.symm
      · exact .inr ⟨y, hy, e⟩

theorem keys_sorted : ∀ L : List Int, (keysOf L).Pairwise (· < ·)
  | [] => by simp [keysOf]
  | _ :: L => insK_sorted (keys_sorted L)

theorem sorted_nodup {l : List Int} (h : l.Pairwise (· < ·)) : l.Nodup := h.imp fun h => Int.ne_of_lt h

/-- Two strictly increasing lists with the same members are one. -/
theorem sorted_eqP : ∀ {a b : List Int}, a.Pairwise (· < ·) → b.Pairwise (· < ·) → (∀ x, x ∈ a ↔ x ∈ b) → a = b
  | [], [], _, _, _ => rfl
  | [], y :: b, _, _, h => absurd ((h y).2 (.head _)) (by simp)
  | x :: a, [], _, _, h => absurd ((h x).1 (.head _)) (by simp)
  | x :: a, y :: b, ha, hb, h => by
    obtain ⟨a1, a2⟩ := List.pairwise_cons.1 ha
    obtain ⟨b1, b2⟩ := List.pairwise_cons.1 hb
    have hxy : x = y := by
      have h1 := (h x).1 (.head _)
      have h2 := (h y).2 (.head _)
      rcases List.mem_cons.1 h1 with e | h1
      · exact e
      · rcases List.mem_cons.1 h2 with e | h2
        · exact e.symm
        · have := b1 x h1; have := a1 y h2; omega
    subst hxy
    congr 1
    refine sorted_eqP a2 b2 fun z => ⟨fun hz => ?_, fun hz => ?_⟩
    · rcases List.mem_cons.1 ((h z).1 (.tail _ hz)) with e | h3
      · subst e; have := a1 z hz; omega
      · exact h3
    · rcases List.mem_cons.1 ((h z).2 (.tail _ hz)) with e | h3
      · subst e; have := b1 z hz; omega
      · exact h3

theorem sumI_perm {f : Int → Int} {a b : List Int} (h : a.Perm b) : sumI f a = sumI f b := by
  induction h with
  | nil => rfl
  | cons x _ ih => simp only [sumI, ih]
  | swap x y l => simp only [sumI]; omega
  | trans _ _ h1 h2 => exact h1.trans h2

/-- Two lists without repetition that have the same members are permutations of each other. -/
theorem nodup_perm {a b : List Int} (ha : a.Nodup) (hb : b.Nodup) (h : ∀ x, x ∈ a ↔ x ∈ b) : a.Perm b := by
  refine List.perm_iff_count.2 fun x => ?_
  rw [ha.count, hb.count]
  by_cases hx : x ∈ a
  · rw [if_pos hx, if_pos ((h x).1 hx)]
  · rw [if_neg hx, if_neg (fun h' => hx ((h x).2 h'))]

theorem sumI_append (f : Int → Int) : ∀ a b : List Int, sumI f (a ++ b) = sumI f a + sumI f b
  | [], b => by simp [sumI]
  | x :: a, b => by simp only [List.cons_append, sumI, sumI_append f a b]; omega

theorem sumI_snoc (f : Int → Int) (a : List Int) (x : Int) : sumI f (a ++ [x]) = sumI f a + f x := by
  rw [sumI_append]; simp [sumI]

/-! ### Bounds -/
theorem byTo_bound {L K : List Int} {v : Int} : ∀ (i : Nat), (∀ j, j < i → -16777216 ≤ ix K j ∧ ix K j ≤ 16777216) → -(16777216 * (i : Int)) ≤ byTo L K v i ∧ byTo L K v i ≤ 16777216 * (i : Int)
  | 0, _ => by simp [byTo]
  | i + 1, h => by
    have ih := byTo_bound (L := L) (K := K) (v := v) i fun j hj => h j (by omega)
    have hi := h i (by omega)
    unfold byTo
    push_cast
    split
    · omega
    · split <;> omega

theorem negTo_bound {L K : List Int} : ∀ (i : Nat), (∀ j, j < i → -16777216 ≤ ix K j ∧ ix K j ≤ 16777216) → -(16777216 * (i : Int)) ≤ negTo L K i ∧ negTo L K i ≤ 16777216 * (i : Int)
  | 0, _ => by simp [negTo]
  | i + 1, h => by
    have ih := negTo_bound (L := L) (K := K) i fun j hj => h j (by omega)
    have hi := h i (by omega)
    unfold negTo
    push_cast
    split <;> omega

end Go.Proofs.YtfhpfbakoiekpaaGreatDoor

/- Pseudo-Boolean constraints: what the normal form says (plain). -/
namespace Go.Proofs.YtfhpfbakoiekpaaGreatDoor

/-- The coefficients of the literals for which t holds. -/
def sumW (t : Int → Bool) : List (Int × Int) → Int
  | [] => 0
  | x :: l => (if t x.1 then x.2 else 0) + sumW t l

theorem sumI_congr {f g : Int → Int} : ∀ {V : List Int}, (∀ v ∈ V, f v = g v) → sumI f V = sumI g V
  | [], _ => rfl
  | v :: V, h => by
    simp only [sumI]
    rw [h v (.head _), sumI_congr fun u hu => h u (.tail _ hu)]

theorem sumI_add (f g : Int → Int) : ∀ V : List Int, sumI (fun v => f v + g v) V = sumI f V + sumI g V
  | [] => rfl
  | v :: V => by simp only [sumI, sumI_add f g V]; omega

theorem sumI_zero : ∀ V : List Int, sumI (fun _ => 0) V = 0
  | [] => rfl
  | v :: V => by simp only [sumI, sumI_zero V]; omega

theorem sumI_delta (d v0 : Int) : ∀ V : List Int, V.Nodup → v0 ∈ V → sumI (fun v => if v = v0 then d else 0) V = d
  | [], _, h => by cases h
  | v :: V, hn, h => by
    obtain ⟨h1, h2⟩ := List.nodup_cons.1 hn
    simp only [sumI]
    by_cases e : v = v0
    · subst e
      rw [if_pos rfl, sumI_congr (g := fun _ => 0) fun u hu => if_neg (fun e' : u = v => h1 (e' ▸ hu)), sumI_zero]
      omega
    · rw [if_neg e, sumI_delta d v0 V h2 ((List.mem_cons.1 h).resolve_left fun e' => e e'.symm)]
      omega

theorem byTo_succ (L K : List Int) (v : Int) (i : Nat) : byTo L K v (i + 1) = byTo L K v i + (if ix L i = v then ix K i else if ix L i = -v then -ix K i else 0) := rfl

theorem byTo_zero_of {L K : List Int} {v : Int} : ∀ (i : Nat), (∀ j, j < i → ix L j ≠ v ∧ ix L j ≠ -v) → byTo L K v i = 0
  | 0, _ => rfl
  | i + 1, h => by
    rw [byTo_succ]
    have := h i (by omega)
    rw [byTo_zero_of i fun j hj => h j (by omega), if_neg this.1, if_neg this.2]
    omega

theorem keys_pos {L : List Int} (h : ∀ j, j < L.length → ix L j ≠ 0) : ∀ v ∈ keysOf L, 0 < v := by
  intro v hv
  obtain ⟨l, hl, rfl⟩ := mem_keys.1 hv
  obtain ⟨j, hj, rfl⟩ := List.mem_iff_getElem.1 hl
  have := h j hj
  have e : ix L j = L[j] := by simp [ix, List.getD_eq_getElem?_getD, List.getElem?_eq_getElem hj]
  rw [e] at this
  omega

theorem ix_get {L : List Int} {j : Nat} (hj : j < L.length) : ix L j = L[j] := by simp [ix, List.getD_eq_getElem?_getD, List.getElem?_eq_getElem hj]

end Go.Proofs.YtfhpfbakoiekpaaGreatDoor

/- Pseudo-Boolean constraints: validity (plain), clauses. -/
namespace Go.Proofs.YtfhpfbakoiekpaaGreatDoor

/-! ### Valid -/
def chkB (bd last : Int) (x : Int × Int) : Bool := plitB x.1 && decide (last < (x.1.natAbs : Int)) && decide (1 ≤ x.2) && decide (x.2 ≤ bd)
def lastF (last : Int) (l : List (Int × Int)) : Int := l.foldl (fun _ x => (x.1.natAbs : Int)) last
def okF (bd : Int) : Int → List (Int × Int) → Bool
  | _, [] => true
  | last, x :: l => chkB bd last x && okF bd (x.1.natAbs : Int) l
def sumP : List (Int × Int) → Int
  | [] => 0
  | x :: l => x.2 + sumP l

theorem lastF_snoc (last : Int) (l : List (Int × Int)) (x : Int × Int) : lastF last (l ++ [x]) = (x.1.natAbs : Int) := by simp [lastF]
theorem okF_snoc (bd : Int) : ∀ (l : List (Int × Int)) (last : Int) (x : Int × Int), okF bd last (l ++ [x]) = (okF bd last l && chkB bd (lastF last l) x)
  | [], last, x => by simp [okF, lastF]
  | y :: l, last, x => by
    have ih := okF_snoc bd l (y.1.natAbs : Int) x
    simp only [List.cons_append, okF, ih, lastF, List.foldl_cons, Bool.and_assoc]
theorem sumP_snoc : ∀ (l : List (Int × Int)) (x : Int × Int), sumP (l ++ [x]) = sumP l + x.2
  | [], x => by simp [sumP]
  | y :: l, x => by simp only [List.cons_append, sumP, sumP_snoc l x]; omega

/-- In order: the last variable is at least the number, and the sum is bounded. -/
theorem okF_bound {bd : Int} : ∀ (l : List (Int × Int)) (last : Int), 0 ≤ last → okF bd last l = true → last + l.length ≤ lastF last l ∧ 0 ≤ sumP l ∧ sumP l ≤ bd * l.length ∧ (l ≠ [] → lastF last l ≤ 65536)
  | [], last, h, _ => by simp [lastF, sumP]
  | x :: l, last, h, ho => by
    unfold okF chkB plitB at ho
    simp only [Bool.and_eq_true, decide_eq_true_eq] at ho
    obtain ⟨⟨⟨⟨h1, h2⟩, h3⟩, h4⟩, h5⟩ := ho
    obtain ⟨i1, i2, i3, i4⟩ := okF_bound l (x.1.natAbs : Int) (by omega) h5
    have e : lastF last (x :: l) = lastF (x.1.natAbs : Int) l := rfl
    rw [e]
    simp only [sumP, List.length_cons]
    push_cast
    rw [Int.mul_add]
    refine ⟨by omega, by omega, by omega, fun _ => ?_⟩
    cases l with
    | nil => simp only [lastF, List.foldl_nil]; omega
    | cons y l => exact i4 (by simp)

/-- Valid: the normal form. -/
def pbV (c : PBC) : Bool :=
  decide (c.lits.length = c.coefs.length) && decide (0 ≤ c.bound ∧ c.bound ≤ 16777216) && okF c.bound 0 (c.lits.zip c.coefs) && (decide (c.bound ≤ sumP (c.lits.zip c.coefs)) || (decide (c.lits.length = 0) && decide (c.bound = 1)))

theorem okF_false {bd : Int} : ∀ (l r : List (Int × Int)) (last : Int), okF bd last l = false → okF bd last (l ++ r) = false
  | [], r, last, h => by simp [okF] at h
  | x :: l, r, last, h => by
    simp only [List.cons_append, okF, Bool.and_eq_false_iff] at h ⊢
    rcases h with h | h
    · exact .inl h
    · exact .inr (okF_false l r _ h)


/-! ### The normal form is valid -/
/-! ### Clauses -/
def setL (L : List Int) : List Int := L.foldr insK []
theorem mem_setL {x : Int} : ∀ {L : List Int}, x ∈ setL L ↔ x ∈ L
  | [] => by simp [setL]
  | y :: L => by
    show x ∈ insK y (setL L) ↔ _
    rw [mem_insK, mem_setL, List.mem_cons]
theorem setL_sorted : ∀ L : List Int, (setL L).Pairwise (· < ·)
  | [] => by simp [setL]
  | _ :: L => insK_sorted (setL_sorted L)

def ones (n : Nat) : List Int := List.replicate n 1
theorem ones_ix {n j : Nat} (hj : j < n) : ix (ones n) j = 1 := by simp [ix, ones, List.getD_eq_getElem?_getD, hj]

def clauseP (L : List Int) : PBC × Int := normP (setL L) (ones (setL L).length) 1

theorem mem_ix_iff {S : List Int} {x : Int} : x ∈ S ↔ ∃ j, j < S.length ∧ ix S j = x := by
  constructor
  · intro h
    obtain ⟨j, hj, rfl⟩ := List.mem_iff_getElem.1 h
    exact ⟨j, hj, ix_get hj⟩
  · rintro ⟨j, hj, rfl⟩
    rw [ix_get hj]; exact List.getElem_mem hj

/-- The coefficient of a variable in a clause. -/
theorem byTo_ones {S : List Int} (hs : S.Nodup) {v : Int} (hv : 0 < v) : ∀ (i : Nat), i ≤ S.length → byTo S (ones S.length) v i = (if v ∈ S.take i then 1 else 0) - (if -v ∈ S.take i then 1 else 0)
  | 0, _ => by simp [byTo]
  | i + 1, h => by
    have ih := byTo_ones hs hv i (by omega)
    have hi : i < S.length := by omega
    have e := List.take_succ_eq_append_getElem hi
    have hni : S[i] ∉ S.take i := by
      intro hm
      have hnd : (S.take (i + 1)).Nodup := hs.sublist (List.take_sublist _ _)
      rw [e] at hnd
      exact (List.nodup_append.1 hnd).2.2 _ hm _ (List.mem_singleton.2 rfl) rfl
    unfold byTo
    rw [ih, ones_ix hi, ix_get hi, e]
    simp only [List.mem_append, List.mem_singleton]
    by_cases e1 : S[i] = v
    · have hv1 : v ∉ S.take i := e1 ▸ hni
      have c1 : (v ∈ S.take i ∨ v = S[i]) ↔ True := ⟨fun _ => trivial, fun _ => .inr e1.symm⟩
      have c2 : (-v ∈ S.take i ∨ -v = S[i]) ↔ -v ∈ S.take i := ⟨fun h => h.resolve_right (by omega), .inl⟩
      rw [if_pos e1]
      simp only [c1, c2, if_true, if_neg hv1]
      omega
    · rw [if_neg e1]
      have hv1 : (v ∈ S.take i ∨ v = S[i]) ↔ v ∈ S.take i := ⟨fun h => h.resolve_right fun h => e1 h.symm, .inl⟩
      simp only [hv1]
      by_cases e2 : S[i] = -v
      · have hv2 : -v ∉ S.take i := e2 ▸ hni
        rw [if_pos e2]
        have c2 : (-v ∈ S.take i ∨ -v = S[i]) ↔ True := ⟨fun _ => trivial, fun _ => .inr e2.symm⟩
        simp only [c2, if_true, if_neg hv2]
        omega
      · rw [if_neg e2]
        have hv2 : (-v ∈ S.take i ∨ -v = S[i]) ↔ -v ∈ S.take i := ⟨fun h => h.resolve_right fun h => e2 h.symm, .inl⟩
        simp only [hv2]
        omega

theorem byTo_set {S : List Int} (hs : S.Nodup) {v : Int} (hv : 0 < v) : byTo S (ones S.length) v S.length = (if v ∈ S then 1 else 0) - (if -v ∈ S then 1 else 0) := by
  rw [byTo_ones hs hv _ (Nat.le_refl _), List.take_length]

end Go.Proofs.YtfhpfbakoiekpaaGreatDoor

/- pb: literal, abs, the iterator parts$1: contracts. -/
namespace Go.Proofs.YtfhpfbakoiekpaaGreatDoor
open Go.RowKit Go.Shelf
attribute [local go_sem] Oper.semAt_some

/-- A constraint in memory. -/
def PBIs (w : World) (v : Value) (c : PBC) : Prop := ∃ vl vk, v = .agg #[vl, vk, .int .i64 c.bound] ∧ Ints w vl c.lits ∧ Ints w vk c.coefs ∧ InI c.bound

theorem PBIs.below {w w' : World} {v : Value} {c : PBC} (h : PBIs w v c) (hb : Below w.heap.size w w') : PBIs w' v c :=
  let ⟨vl, vk, e, h1, h2, h3⟩ := h; ⟨vl, vk, e, h1.below hb, h2.below hb, h3⟩

theorem pliteral_any (l : Int) (w : World) : Calls Tryz.prog 102 #[.int .i64 l] w fun e w' => e = .returned (.bool (plitB l)) ∧ w = w' := by
  by_cases h0 : l = 0
  · subst h0
    go_enter Tryz.func102, Tryz.ntmps102
    go_wp2
    go_ret
    exact ⟨rfl, rfl⟩
  · by_cases h1 : -65536 ≤ l
    · by_cases h2 : l ≤ 65536
      · have HF : Hid (plitB l = true) := Lib.hid (by unfold plitB; simp [h0, h1, h2])
        go_enter Tryz.func102, Tryz.ntmps102
        go_wp2
        go_ret
        exact ⟨ret_bool (by rw [HF.out]; try simp_all), rfl⟩
      · have HF : Hid (plitB l = false) := Lib.hid (by unfold plitB; simp [h2])
        go_enter Tryz.func102, Tryz.ntmps102
        go_wp2
        go_ret
        exact ⟨ret_bool (by rw [HF.out]; try simp_all), rfl⟩
    · have HF : Hid (plitB l = false) := Lib.hid (by unfold plitB; simp [h1])
      go_enter Tryz.func102, Tryz.ntmps102
      go_wp2
      go_ret
      exact ⟨ret_bool (by rw [HF.out]; try simp_all), rfl⟩

theorem abs_any (l : Int) (hl : -4611686018427387904 ≤ l ∧ l ≤ 4611686018427387904) (w : World) : Calls Tryz.prog 74 #[.int .i64 l] w fun e w' => e = .returned (.int .i64 l.natAbs) ∧ w = w' := by
  go_enter Tryz.func74, Tryz.ntmps74
  go_wp2
  all_goals
    go_ret
    refine ⟨ret_int ?_, rfl⟩
    omega

theorem parts_any (vl vk : Value) (bd : Int) (w : World) (hl : ∃ a n c, vl = .slice a n c) (hk : ∃ a n c, vk = .slice a n c) :
    Calls Tryz.prog 71 #[.agg #[vl, vk, .int .i64 bd]] w fun e w' => e = .returned (.func (.func 114) #[] #[.pointer (some ⟨w.heap.size, 0, none⟩)]) ∧ Below w.heap.size w w' ∧ Blk w' w.heap.size [vl, vk, .int .i64 bd] 30 := by
  obtain ⟨a1, n1, c1, rfl⟩ := hl
  obtain ⟨a2, n2, c2, rfl⟩ := hk
  have HB : Hid (Below w.heap.size w (w.alloc (.cells #[.slice a1 n1 c1, .slice a2 n2 c2, .int .i64 bd] 30))) := Lib.hid (bal (Below.refl _ _) _)
  have HK := Lib.hid (Blk.new w [.slice a1 n1 c1, .slice a2 n2 c2, .int .i64 bd] 30)
  go_enter Tryz.func71, Tryz.ntmps71
  go_wp2
  go_ret
  exact ⟨rfl, HB.out, HK.out⟩

/-- What parts yields. -/
abbrev PV (c : PBC) := { q : Int × Int // q ∈ c.lits.zip c.coefs }

def pvs {c : PBC} (l : List (PV c)) : List (Int × Int) := l.map (·.1)
theorem pvs_snoc {c : PBC} (l : List (PV c)) (x : PV c) : pvs (l ++ [x]) = pvs l ++ [x.1] := by simp [pvs]
theorem pvs_len {c : PBC} (l : List (PV c)) : (pvs l).length = l.length := by simp [pvs]

theorem zip_at {L K : List Int} {k : Nat} (hk : k < L.length) (hl : L.length = K.length) : (L.zip K)[k]? = some (ix L k, ix K k) := by
  simp only [ix, List.getD_eq_getElem?_getD, List.getElem?_zip_eq_some, List.getElem?_eq_getElem hk, List.getElem?_eq_getElem (show k < K.length by omega), Option.getD_some, and_self]

theorem zip_take {L K : List Int} {k : Nat} (hk : k < L.length) (hl : L.length = K.length) : (L.zip K).take (k + 1) = (L.zip K).take k ++ [(ix L k, ix K k)] := by
  rw [List.take_add_one, zip_at hk hl]
  rfl

/-- What the iterator leans on. -/
structure PartSt (wi w : World) (S : List Nat) (cb : Nat) (vl vk : Value) (bd : Int) : Prop where
  below : ∀ i, i < wi.heap.size → w.heap[i]? = wi.heap[i]?
  size : wi.heap.size ≤ w.heap.size
  box : Blk w cb [vl, vk, .int .i64 bd] 30

theorem PartSt.lim {wi w w' : World} {S : List Nat} {cb n : Nat} {vl vk : Value} {bd : Int} (h : PartSt wi w S cb vl vk bd) (hl : Lim n S w w') (hn : wi.heap.size ≤ n) (hcb : cb < n) (hS : ∀ s ∈ S, wi.heap.size ≤ s) (hne : cb ∉ S) : PartSt wi w' S cb vl vk bd :=
  ⟨fun i hi => (hl.block i (by omega) (fun hm => by have := hS i hm; omega)).trans (h.below i hi), Nat.le_trans h.size hl.size, h.box.same (hl.block cb hcb hne)⟩

def PartRel (c : PBC) (n0 : Nat) (S : List Nat) (W0 : World) (J : List (PV c) → World → Prop) (i : Value) (wr : World) : Prop :=
  ∃ (k : Nat) (pre : List (PV c)), k ≤ c.lits.length ∧ i = .int .i64 k ∧ pvs pre = (c.lits.zip c.coefs).take k ∧ J pre wr ∧ Lim n0 S W0 wr

theorem cell_of_same {w w' : World} {b o : Nat} (h : w'.heap[b]? = w.heap[b]?) : w'.cell? ⟨b, o, none⟩ = w.cell? ⟨b, o, none⟩ := World.cell?_of_block h

theorem yieldEnd2 {e : Ending} {A B : Prop} (h : (e = .returned (.bool true) ∧ A) ∨ (e = .returned (.bool false) ∧ B)) : ∃ b, e = .returned (.bool b) ∧ (b = true → A) ∧ (b = false → B) := by
  rcases h with ⟨rfl, h⟩ | ⟨rfl, h⟩
  · exact ⟨true, rfl, fun _ => h, fun e => (Bool.noConfusion e)⟩
  · exact ⟨false, rfl, (fun e => Bool.noConfusion e), fun _ => h⟩

set_option maxHeartbeats 4000000 in
set_option maxRecDepth 100000 in
theorem parts_stops (c : PBC) (wi w0 : World) (vl vk : Value) (hL : Ints wi vl c.lits) (hK : Ints wi vk c.coefs) (hlen : c.lits.length = c.coefs.length) (S : List Nat) (cb : Nat)
    (hst : PartSt wi w0 S cb vl vk c.bound) (hS : ∀ s ∈ S, wi.heap.size ≤ s) (hne : cb ∉ S) (n : Nat) (hn : 1 ≤ n) :
    SeqStopsK Fence.wide n Tryz.prog 114 #[.pointer (some ⟨cb, 0, none⟩)] (fun x : PV c => #[.int .i64 x.1.1, .int .i64 x.1.2]) (Lim w0.heap.size S)
      (fun xs => pvs xs = c.lits.zip c.coefs) (fun pre => ∃ k, k ≤ c.lits.length ∧ pvs pre = (c.lits.zip c.coefs).take k) c.lits.length w0 := by
  intro l J Jx W hW hJ hJx hY h0
  obtain ⟨a1, c1, rfl, -, hl1, -, hcell1⟩ := hL.form
  obtain ⟨a2, c2, rfl, -, hl2, -, hcell2⟩ := hK.form
  have HC1 := Lib.hid hcell1
  have HC2 := Lib.hid hcell2
  have HY := Lib.hid hY
  have HJ := Lib.hid hJ
  have HJX := Lib.hid hJx
  have H0 := Lib.hid h0
  have HLEN := Lib.hid hlen
  have hcbl := hst.box.lt
  have hsz := hst.size
  have HS0 : Hid (PartSt wi W S cb (.slice a1 c.lits.length c1) (.slice a2 c.coefs.length c2) c.bound) := Lib.hid (hst.lim (.of_below hW (Nat.le_refl _)) hsz hcbl hS hne)
  have HS := Lib.hid hS
  have HNE := Lib.hid hne
  have kp := HS0.out.box.cell
  have hzW := hW.size
  clear hst hY hJ hJx h0 hW hcell1 hcell2 hL hK hS hne hlen
  refine callsIn_of_wp Tryz.func114 rfl trivial ?_ rfl
  simp only [Tryz.ntmps114, List.size_toArray, List.length_cons, List.length_nil, Nat.reduceAdd, Nat.reduceSub, Array.replicate_succ, Array.replicate_zero, List.push_toArray, List.append_toArray, List.nil_append, List.cons_append]
  gi_wp2
  clear kp
  gi_loopw [8] (fun i wr => PartRel c w0.heap.size S W J i wr) (fun i _ => c.lits.length - (intOf i).toNat)
  case atStart => exact ⟨0, [], Nat.zero_le _, rfl, by simp [pvs], H0.out, Lim.refl _ _ _⟩
  case round =>
    obtain ⟨k, pre, hk, rfl, hpre, hj, hlim⟩ := hrel
    have HJR := Lib.hid hj
    have HPRE := Lib.hid hpre
    have HLIM := Lib.hid hlim
    have HSR := Lib.hid (HS0.out.lim hlim hsz hcbl HS.out HNE.out)
    clear hj hpre hlim
    by_cases hlt : k < c.lits.length
    · have hlt2 : k < c.coefs.length := by have := HLEN.out; omega
      obtain ⟨b1, o1, rfl, hb1, hc1⟩ := HC1.out (by omega)
      obtain ⟨b2, o2, rfl, hb2, hc2⟩ := HC2.out (by omega)
      have k1 := (cell_of_same (o := o1 + k) (HSR.out.below b1 hb1)).trans (hc1 k hlt)
      have k2 := (cell_of_same (o := o2 + k) (HSR.out.below b2 hb2)).trans (hc2 k hlt2)
      have kr := HSR.out.box.cell
      have HLN : Hid (pre.length < c.lits.length) := Lib.hid (by
        have h1 := congrArg List.length HPRE.out
        rw [pvs_len, List.length_take] at h1
        have := Nat.min_le_left k (c.lits.zip c.coefs).length
        omega)
      have HM : Hid ((ix c.lits k, ix c.coefs k) ∈ c.lits.zip c.coefs) := Lib.hid (List.mem_of_getElem? (zip_at hlt HLEN.out))
      have HZ := Lib.hid (zip_take hlt HLEN.out)
      clear hc1 hc2
      obtain ⟨fn, tmps, assign, body, hy, hR⟩ := HY.out pre ⟨_, HM.out⟩ wr HJR.out HLN.out
      dsimp only at hy
      gi_wp2_with (refine hR.mono ?_; rintro e W3 h3; obtain ⟨bb, rfl, hbt, hbf⟩ := yieldEnd2 h3; have HBT := Lib.hid hbt; have HBF := Lib.hid hbf; clear hbt hbf h3)
      case roundEnd =>
        obtain rfl : bb = true := by simpa using ‹(!bb) = false›
        exact ⟨⟨k + 1, pre ++ [_], hlt, by go_num, by rw [pvs_snoc, HPRE.out, HZ.out], (HBT.out (by first | exact rfl | exact trivial)).1, HLIM.out.trans (HBT.out (by first | exact rfl | exact trivial)).2⟩, by simp [intOf]; omega⟩
      obtain rfl : bb = false := by simpa using ‹(!bb) = true›
      refine bodyPost_ret (results_none rfl _ _ _) rfl ?_
      exact ⟨⟨_, rfl⟩, .inr ⟨pre ++ [_], ⟨k + 1, hlt, by rw [pvs_snoc, HPRE.out, HZ.out]⟩, HBF.out (by first | exact rfl | exact trivial)⟩⟩
    · gi_wp2
      go_end0
      obtain rfl : k = c.lits.length := by omega
      exact ⟨⟨_, rfl⟩, .inl ⟨pre, by rw [HPRE.out, List.take_of_length_le (by rw [List.length_zip]; exact Nat.min_le_left _ _)], HJR.out⟩⟩

end Go.Proofs.YtfhpfbakoiekpaaGreatDoor
