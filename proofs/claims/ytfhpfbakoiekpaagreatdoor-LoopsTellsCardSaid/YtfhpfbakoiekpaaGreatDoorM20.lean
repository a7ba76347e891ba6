/- My texts CpC, Rf26r, Perm5, PermK, RowK, Rf27f, Rf27g, LoopP, merged. -/
import Derived.Test.YtfhpfbakoiekpaaGreatDoorM12
import Derived.Test.YtfhpfbakoiekpaaGreatDoorM08
import Derived.Test.YtfhpfbakoiekpaaGreatDoorM04
import Derived.Test.YtfhpfbakoiekpaaGreatDoorM05
import Derived.Deep.DeepMust
import Derived.Test.YtfhpfbakoiekpaaGreatDoorM19
import Derived.Test.YtfhpfbakoiekpaaGreatDoorM16
import Derived.Test.YtfhpfbakoiekpaaGreatDoorM02

/- complete: the closures put and clause of Completion; negated. -/
namespace Go.Proofs.YtfhpfbakoiekpaaGreatDoor
open Go.RowKit

section
variable {B ob n : Nat} {xs : List Value} {v : Value} {w w' W2 w3 : World} {L : List CQ}

theorem rowC_isC (h : w.ownsRow B 30 3 v n xs) : ∀ g, v.ownBlock = some g → B ≤ g ∧ isC w g := fun g e => by
  rcases h.2 with ⟨rfl, _⟩ | ⟨g', cap, cur, rfl, hb, hg, _⟩
  · cases e
  · have : g' = g := by simpa [Value.ownBlock] using e
    subst this
    exact ⟨hb, cur, (0, 0), .inr hg⟩

theorem CLim.grown (h : w.ownsRow B 30 3 v n xs) (hg : w.grownBy w' v.ownBlock) : CLim B w w' :=
  ⟨hg.os, hg.tape, hg.output, hg.size, fun i hi hn => hg.block i hi fun e => by
    obtain ⟨h1, h2⟩ := rowC_isC h i e.symm
    exact hn h1 h2⟩

theorem MineC.setOther {c : List Value} {T : TypeId} (h : MineC B v L w) (hb : Blk w ob c T) (h1 : T ≠ 30) (h2 : T ≠ 3) (u : Value) : MineC B v L (w.setCell ⟨ob, 0, none⟩ u) := by
  refine ⟨h.row.kept (grownBy_setCell' w ob u) (.inr fun e => ?_), fun q hq => ?_⟩
  · rcases h.row.2 with ⟨rfl, _⟩ | ⟨g, cap, cur, rfl, _, hg, _⟩
    · cases e
    · have : g = ob := by simpa [Value.ownBlock] using e
      subst this
      unfold Blk at hb
      rw [hg] at hb
      have := Option.some.inj hb
      injection this with _ h3 _
      exact h1 h3.symm
  · obtain ⟨q1, q2, q3⟩ := h.each q hq
    have k : ∀ (x : Value) (l : List Int), QRow B w x l → QRow B (w.setCell ⟨ob, 0, none⟩ u) x l := fun x l hx => hx.kept fun i _ _ hi => Below.heap_setCell _ _ _ _ fun e => hx.far hb h2 (show x.ownBlock = some ob by rw [hi]; exact congrArg some e)
    exact ⟨k _ _ q1, k _ _ q2, q3⟩

end

/-! ### negated -/
end Go.Proofs.YtfhpfbakoiekpaaGreatDoor

/- ostlerref26.rule: the rows under way. -/
namespace Go.Proofs.YtfhpfbakoiekpaaGreatDoor
open Go.RowKit

/-- The constraints (L, row vo) and the negated literals (N, row vn). -/
structure RU (B : Nat) (vo vn : Value) (L : List CQ) (N : List Int) (wx : World) : Prop where
  row : MineC B vo L wx
  neg : QRow B wx vn N
  far : ∀ q ∈ L, ∀ g, vn.ownBlock = some g → q.2.1.ownBlock ≠ some g ∧ q.2.2.ownBlock ≠ some g

section
variable {B : Nat} {vo vn vn' : Value} {L : List CQ} {N N' : List Int} {wx wy : World}

theorem RU.start (B : Nat) (wx : World) : RU B (.slice none 0 0) (.slice none 0 0) [] [] wx := ⟨MineC.nil B wx, QRow.nil _ _, fun q hq => by simp at hq⟩
theorem RU.on (h : RU B vo vn L N wx) (hb : Below wx.heap.size wx wy) : RU B vo vn L N wy := ⟨h.row.below hb, h.neg.below hb, h.far⟩

theorem MineC.base {v : Value} (h : MineC B v L wx) {q : CQ} (hq : q ∈ L) {g : Nat} (e : q.2.1.ownBlock = some g ∨ q.2.2.ownBlock = some g) : g < wx.heap.size := by
  obtain ⟨h1, h2, -⟩ := h.each q hq
  rcases e with e | e
  · exact (h1.base e).2
  · exact (h2.base e).2

/-- A row of constraints and a row of ints lie in different blocks. -/
theorem rowC_ne (h : wx.ownsRow B 30 3 vo L.length (L.flatMap cells3)) (hn : QRow B wx vn N) : vo.ownBlock = none ∨ vo.ownBlock ≠ vn.ownBlock := by
  rcases h.2 with ⟨rfl, _⟩ | ⟨g, cap, cur, rfl, _, hg, _⟩
  · exact .inl rfl
  · exact .inr fun e => hn.far (b := g) (c := cur.toList) (T := 30) (by unfold Blk; rw [hg]) (by decide) e.symm

/-- The negated literals grow. -/
theorem RU.grow (h : RU B vo vn L N wx) (hq : QRow B wy vn' N') (hg : wx.grownBy wy vn.ownBlock) (ho : vn'.ownBlock = vn.ownBlock ∨ vn'.ownBlock = some wx.heap.size) : RU B vo vn' L N' wy := by
  refine ⟨⟨h.row.row.kept hg (rowC_ne h.row.row h.neg), fun q hm => ?_⟩, hq, fun q hm g e => ?_⟩
  · obtain ⟨h1, h2, h3⟩ := h.row.each q hm
    exact ⟨h1.kept fun i _ hi hv => hg.block i hi fun e => (h.far q hm i e.symm).1 hv, h2.kept fun i _ hi hv => hg.block i hi fun e => (h.far q hm i e.symm).2 hv, h3⟩
  · rcases ho with h1 | h1
    · exact h.far q hm g (h1 ▸ e)
    · rw [h1] at e
      obtain rfl := Option.some.inj e
      exact ⟨fun e2 => absurd (h.row.base hm (.inl e2)) (Nat.lt_irrefl _), fun e2 => absurd (h.row.base hm (.inr e2)) (Nat.lt_irrefl _)⟩

/-- A constraint whose rows are younger than the negated literals' is pushed. -/
theorem RU.push {g cap : Nat} {q : CQ} (h : RU B vo vn L N wx) (hq : QRow B wx q.2.1 q.1.lits ∧ QRow B wx q.2.2 q.1.coefs ∧ InI q.1.bound ∧ q.1.lits.length ≤ 65536 ∧ q.1.coefs.length ≤ 65536)
    (hf : ∀ g, vn.ownBlock = some g → q.2.1.ownBlock ≠ some g ∧ q.2.2.ownBlock ≠ some g)
    (hown : wy.ownsRow B 30 3 (.slice (some ⟨g, 0, none⟩) (L.length + 1) cap) (L.length + 1) (L.flatMap cells3 ++ cells3 q)) (hg : wx.grownBy wy vo.ownBlock) :
    RU B (.slice (some ⟨g, 0, none⟩) (L.length + 1) cap) vn (L ++ [q]) N wy := by
  refine ⟨h.row.push hq hown hg, h.neg.rowKeptC h.row.row hg, fun q' hm => ?_⟩
  rcases List.mem_append.1 hm with hm | hm
  · exact h.far q' hm
  · obtain rfl : q' = q := by simpa using hm
    exact hf

end

end Go.Proofs.YtfhpfbakoiekpaaGreatDoor

/- Regions that draw their order, with ONE call of a Go function that may write, in the tail. -/
namespace Go.Proofs.YtfhpfbakoiekpaaGreatDoor
open Go.RowKit

/-- The operation enters a Go function. -/
def Enters (P : Program) (o : Oper) (a : Act) (w : World) : Prop := ∃ f args w', (execOp a.eval o).run P w = .ok (.enter f args) w'

section
variable {P : Program} {l : List Oper} {w0 : World} {Φ : Nat → List Value → Value → Nat → Nat → World → Prop} {ism : Nat → Bool} {D : Nat → Nat → Bool} {Q : Exit → Act → World → Prop} {E : Act → World → Prop} {Cl : Nat → World → Prop} {n : Nat} {a0 : Act}

end

section
variable {P : Program} {l : List Oper} {s : List Nat} {Q : Exit → Act → World → Prop}

end

end Go.Proofs.YtfhpfbakoiekpaaGreatDoor

/- A region that draws its order, by what holds when some of its operations have come up; calls of Go functions among them. -/
namespace Go.Proofs.YtfhpfbakoiekpaaGreatDoor
open Go.RowKit

section
variable {P : Program} {l : List Oper} {D : Nat → Nat → Bool} {Q : Exit → Act → World → Prop} {a0 : Act}

/-- As StepJ; the operation may enter a Go function. -/
def StepK (P : Program) (l : List Oper) (a0 : Act) (W : (Nat → Value) → (Nat → Bool) → World → Prop) (i : Nat) (vals : Nat → Value) (L : Nat → Bool) (w : World) : Prop :=
  StepJ P l a0 W i vals L w ∧ (tame (opAt l i) = true ∨ Enters P (opAt l i) (Afr l a0 vals i) w)

theorem StepK.of {W : (Nat → Value) → (Nat → Bool) → World → Prop} {i : Nat} {vals : Nat → Value} {L : Nat → Bool} {w : World} (hw : Region.wanted (opAt l i) (yielded l.toArray (Afr l a0 vals i).tmps) = true) (ht : tame (opAt l i) = true)
    (h : ∀ K : Act → World → Prop, (∀ v w', W (updN vals i v) (updN L i true) w' → K ((Afr l a0 vals i).put (opAt l i).dst v) w') → (opAt l i).wp P (Afr l a0 vals i) w K (fun _ _ _ => False)) : StepK P l a0 W i vals L w := ⟨.of hw h, .inl ht⟩
theorem StepK.call {W : (Nat → Value) → (Nat → Bool) → World → Prop} {i : Nat} {vals : Nat → Value} {L : Nat → Bool} {w : World} (hw : Region.wanted (opAt l i) (yielded l.toArray (Afr l a0 vals i).tmps) = true) (ht : Enters P (opAt l i) (Afr l a0 vals i) w)
    (h : ∀ K : Act → World → Prop, (∀ v w', W (updN vals i v) (updN L i true) w' → K ((Afr l a0 vals i).put (opAt l i).dst v) w') → (opAt l i).wp P (Afr l a0 vals i) w K (fun _ _ _ => False)) : StepK P l a0 W i vals L w := ⟨.of hw h, .inr ht⟩

end

end Go.Proofs.YtfhpfbakoiekpaaGreatDoor

/- Rows of ints of the call's own, side by side in a drawn region; pushing a constraint. -/
namespace Go.Proofs.YtfhpfbakoiekpaaGreatDoor
open Go.RowKit

theorem RU.lt {B : Nat} {vo vn : Value} {L : List CQ} {N : List Int} {wx : World} (h : RU B vo vn L N wx) : ∀ g, vn.ownBlock = some g → g < wx.heap.size := fun _ e => (h.neg.base e).2

/-- Only the row of constraints and what lies above has turned. -/
theorem RU.kept {B : Nat} {vo vn : Value} {L : List CQ} {N : List Int} {W wx wy : World} (h : RU B vo vn L N wx) (hb : Below W.heap.size W wx) (hB : W.heap.size ≤ B) (hg : wx.grownBy wy vo.ownBlock) : Below W.heap.size W wy :=
  hb.trans (below_row hg hb.size fun g e => Nat.le_trans hB (rowC_isC h.row.row g e).1)

/-! ### Rows side by side -/
structure RowsK (B : Nat) (live : Nat → Option (List Int)) (vals : Nat → Value) (wx : World) : Prop where
  row : ∀ i l, live i = some l → QRow B wx (vals i) l
  far : ∀ i j l m, live i = some l → live j = some m → i ≠ j → ∀ g, (vals i).ownBlock = some g → (vals j).ownBlock ≠ some g

section
variable {B k x : Nat} {live live' : Nat → Option (List Int)} {vals : Nat → Value} {wx wy : World} {v : Value} {l lx : List Int}

theorem RowsK.start (B : Nat) (vals : Nat → Value) (wx : World) (h : ∀ i l, live i ≠ some l) : RowsK B live vals wx := ⟨fun i l e => absurd e (h i l), fun i _ l _ e => absurd e (h i l)⟩
theorem RowsK.on (h : RowsK B live vals wx) (hb : Below wx.heap.size wx wy) : RowsK B live vals wy := ⟨fun i l e => (h.row i l e).below hb, h.far⟩
theorem RowsK.new (h : RowsK B live vals wx) (hb : Below wx.heap.size wx wy) (hq : QRow wx.heap.size wy v l) (hB : B ≤ wx.heap.size) (hl : ∀ i m, live' i = some m → i = k ∧ m = l ∨ i ≠ k ∧ live i = some m) : RowsK B live' (updN vals k v) wy := by
  have e : ∀ i, i ≠ k → updN vals k v i = vals i := fun i hi => by simp only [updN]; rw [if_neg hi]
  have e0 : updN vals k v k = v := by simp [updN]
  have hlt : ∀ i m, live i = some m → ∀ g, (vals i).ownBlock = some g → g < wx.heap.size := fun i m hi g hg => ((h.row i m hi).base hg).2
  refine ⟨fun i m hi => ?_, fun i j m n hi hj hij g hg hg2 => ?_⟩
  · rcases hl i m hi with ⟨rfl, rfl⟩ | ⟨h1, h2⟩
    · rw [e0]; exact hq.mono hB
    · rw [e i h1]; exact (h.row i m h2).below hb
  · rcases hl i m hi with ⟨rfl, rfl⟩ | ⟨h1, h2⟩ <;> rcases hl j n hj with ⟨rfl, rfl⟩ | ⟨h3, h4⟩
    · exact hij rfl
    · rw [e0] at hg; rw [e j h3] at hg2
      have := (hq.base hg).1; have := hlt j n h4 g hg2; omega
    · rw [e0] at hg2; rw [e i h1] at hg
      have := (hq.base hg2).1; have := hlt i m h2 g hg; omega
    · rw [e i h1] at hg; rw [e j h3] at hg2
      exact h.far i j m n h2 h4 hij g hg hg2

theorem RowsK.app (h : RowsK B live vals wx) (hx : live x = some lx) (hq : QRow B wy v l) (hg : wx.grownBy wy (vals x).ownBlock) (ho : v.ownBlock = (vals x).ownBlock ∨ v.ownBlock = some wx.heap.size)
    (hl : ∀ i m, live' i = some m → i = k ∧ m = l ∨ i ≠ k ∧ i ≠ x ∧ live i = some m) : RowsK B live' (updN vals k v) wy := by
  have e : ∀ i, i ≠ k → updN vals k v i = vals i := fun i hi => by simp only [updN]; rw [if_neg hi]
  have e0 : updN vals k v k = v := by simp [updN]
  have hlt : ∀ i m, live i = some m → ∀ g, (vals i).ownBlock = some g → g < wx.heap.size := fun i m hi g hg => ((h.row i m hi).base hg).2
  have hnew : ∀ i m, live i = some m → i ≠ x → ∀ g, (vals i).ownBlock = some g → v.ownBlock ≠ some g := fun i m hi hix g e1 e2 => by
    rcases ho with ho | ho
    · rw [ho] at e2; exact h.far i x m lx hi hx hix g e1 e2
    · rw [ho] at e2; have := hlt i m hi g e1; have := Option.some.inj e2; omega
  refine ⟨fun i m hi => ?_, fun i j m n hi hj hij g hg1 hg2 => ?_⟩
  · rcases hl i m hi with ⟨rfl, rfl⟩ | ⟨h1, h1b, h2⟩
    · rw [e0]; exact hq
    · rw [e i h1]
      exact (h.row i m h2).kept fun b _ hb hv => hg.block b hb fun e3 => h.far i x m lx h2 hx h1b b hv e3.symm
  · rcases hl i m hi with ⟨rfl, rfl⟩ | ⟨h1, h1b, h2⟩ <;> rcases hl j n hj with ⟨rfl, rfl⟩ | ⟨h3, h3b, h4⟩
    · exact hij rfl
    · rw [e0] at hg1; rw [e j h3] at hg2; exact hnew j n h4 h3b g hg2 hg1
    · rw [e0] at hg2; rw [e i h1] at hg1; exact hnew i m h2 h1b g hg1 hg2
    · rw [e i h1] at hg1; rw [e j h3] at hg2
      exact h.far i j m n h2 h4 hij g hg1 hg2

theorem RowsK.below (h : RowsK B live vals wx) (hx : live x = some lx) {W : World} (hW : Below W.heap.size W wx) (hB : W.heap.size ≤ B) (hg : wx.grownBy wy (vals x).ownBlock) : Below W.heap.size W wy :=
  hW.trans (below_row hg hW.size fun _ e => Nat.le_trans hB ((h.row x lx hx).base e).1)

theorem qrow_box {y : Int} (hy : InI y) (wx : World) : QRow wx.heap.size (wx.alloc (.cells #[.int .i64 y] 3)) (.slice (some ⟨wx.heap.size, 0, none⟩) 1 1) [y] :=
  ⟨fitI (by simpa using hy), .inr ⟨_, 0, 1, #[.int .i64 y], rfl, Nat.le_refl _, heap_alloc_new wx _, by simp, by unfold maxLen; omega, by simp, fun i hi => by
    obtain rfl : i = 0 := by simpa using hi
    rfl⟩⟩
end

end Go.Proofs.YtfhpfbakoiekpaaGreatDoor

/- ostlerref27: reasons. -/
namespace Go.Proofs.YtfhpfbakoiekpaaGreatDoor
open Go.RowKit

theorem find_ix {l : List Int} {f : Int → Bool} {k : Nat} (hk : k < l.length) (h : ∀ j, j < k → f (ix l j) = false) (hf : f (ix l k) = true) : l.find? f = some (ix l k) := by
  have e : l = l.take k ++ ix l k :: l.drop (k + 1) := by
    rw [ix_get hk, List.getElem_cons_drop, List.take_append_drop]
  have h0 : (l.take k).find? f = none := List.find?_eq_none.2 fun x hx => by
    obtain ⟨j, hj, rfl⟩ := mem_ix.1 hx
    rw [List.length_take] at hj
    have e2 : ix (l.take k) j = ix l j := by
      rw [ix_get (show j < (l.take k).length by rw [List.length_take]; omega), ix_get (show j < l.length by omega), List.getElem_take]
    rw [e2, h j (by omega)]
    simp
  conv => lhs; rw [e]
  rw [List.find?_append, h0, List.find?_cons, hf]
  rfl
theorem find_none {l : List Int} {f : Int → Bool} (h : ∀ j, j < l.length → f (ix l j) = false) : l.find? f = none := List.find?_eq_none.2 fun x hx => by
  obtain ⟨j, hj, rfl⟩ := mem_ix.1 hx
  rw [h j hj]
  simp

theorem nil_i27 (w : World) : Ints w (.slice none 0 0) [] := nil_ints w
def f1 (r : GR) (D : List Int) (j : Nat) : Bool := !r.sum && decide (ix r.body j ∈ D)
def f2 (r : GR) (S D : List Int) (j : Nat) : Bool := !r.choice && (!decide (ix r.head j ∈ S) && decide (-(ix r.head j) ∈ D))
def f3 (S D : List Int) (l : Int) : Bool := !intB S l && decide (l ∈ D)
def fil (r : GR) (S D : List Int) (k : Nat) : List Int := (r.body.take k).filter (f3 S D)
theorem fil_next {r : GR} {S D : List Int} {k : Nat} (h : k < r.body.length) : fil r S D (k + 1) = fil r S D k ++ (if f3 S D (ix r.body k) = true then [ix r.body k] else []) := by
  unfold fil
  rw [List.take_add_one, List.getElem?_eq_getElem h, List.filter_append, ix_get h]
  simp only [Option.toList_some, List.filter_cons, List.filter_nil]
theorem fil_len (r : GR) (S D : List Int) (k : Nat) : (fil r S D k).length ≤ r.body.length := by
  unfold fil
  refine Nat.le_trans (List.length_filter_le _ _) ?_
  rw [List.length_take]; omega

theorem rs2_hit {r : GR} {S D : List Int} {k : Nat} (hk : k < r.body.length) (h : ∀ j, j < k → f1 r D j = false) (hs : r.sum = false) (hd : decide (ix r.body k ∈ D) = true) : rs2 r S D = [ix r.body k] := by
  unfold rs2
  rw [hs, if_neg Bool.false_ne_true, find_ix hk (fun j hj => by have := h j hj; unfold f1 at this; rw [hs] at this; simpa using this) hd]
theorem rs2_miss {r : GR} {S D : List Int} (h : ∀ j, j < r.body.length → f1 r D j = false) : rs2 r S D = rs3 r S D := by
  unfold rs2
  cases hs : r.sum with
  | true => rfl
  | false =>
    rw [if_neg Bool.false_ne_true, find_none (fun j hj => by have := h j hj; unfold f1 at this; rw [hs] at this; simpa using this)]
theorem rs3_hit {r : GR} {S D : List Int} {k : Nat} (hk : k < r.head.length) (h : ∀ j, j < k → f2 r S D j = false) (hs : r.choice = false) (hd : (!decide (ix r.head k ∈ S) && decide (-(ix r.head k) ∈ D)) = true) : rs3 r S D = [-(ix r.head k)] := by
  unfold rs3
  rw [hs, if_neg Bool.false_ne_true, find_ix hk (fun j hj => by have := h j hj; unfold f2 at this; rw [hs] at this; simpa using this) hd]
theorem rs3_miss {r : GR} {S D : List Int} (h : ∀ j, j < r.head.length → f2 r S D j = false) : rs3 r S D = fil r S D r.body.length := by
  unfold rs3 fil
  rw [List.take_length]
  cases hs : r.choice with
  | true => rfl
  | false =>
    rw [if_neg Bool.false_ne_true, find_none (fun j hj => by have := h j hj; unfold f2 at this; rw [hs] at this; simpa using this)]
    rfl

def RsRel3 (w W4 : World) (cp : List Value) (rb : Nat) (cr : List Value) (r : GR) (vh vb vw vS vD : Value) (S D : List Int) (o i : Value) (wx : World) : Prop :=
  ∃ k : Nat, k ≤ r.body.length ∧ i = .int .i64 k ∧ (∃ a n c, o = .slice a n c) ∧ QRow W4.heap.size wx o (fil r S D k) ∧ AlSt w cp rb cr r vh vb vw vS vD S D wx ∧ Below W4.heap.size W4 wx

set_option maxHeartbeats 8000000 in
set_option maxRecDepth 100000 in
theorem rreas_any (v vm vd : Value) (p : GP) (i : Nat) (S D : List Int) (w : World) (h : ProgIs w v p) (hm : Ints w vm S) (hd : Ints w vd D) (hv : validE p = 0) (hi : i < p.rules.length) :
    Calls Tryz.prog 34 #[v, .int .i64 i, vm, vd] w fun e w' => ∃ vo, e = .returned vo ∧ QRow w.heap.size w' vo (rsR p i S D) ∧ Below w.heap.size w w' := by
  obtain ⟨vn, vs, vr, vmn, rfl, hn, -, -, hrules, -⟩ := h
  obtain ⟨a1, c1, rfl, -, hl1, -, hcell⟩ := hrules.form
  obtain ⟨am, cm, rfl, -⟩ := hm.form
  obtain ⟨ad, cd, rfl, -⟩ := hd.form
  obtain ⟨b, off, rfl, hbl, hc⟩ := hcell (by omega)
  obtain ⟨vh, vb, vw, hcc, hsl⟩ := hc i hi
  obtain ⟨ah, ch, rfl, -, hlh, -, -⟩ := hsl.head.form
  obtain ⟨ab, cb, rfl, -, hlb, -, -⟩ := hsl.body.form
  obtain ⟨aw, cw, rfl, -, hlw, -, -⟩ := hsl.wts.form
  have hal := bal (Below.refl w.heap.size w) (.cells #[.int .i64 p.n, vn, vs, .slice (some ⟨b, off, none⟩) p.rules.length c1, vmn] 27)
  have HAL := Lib.hid hal
  have HBK := Lib.hid (Blk.new w [.int .i64 p.n, vn, vs, .slice (some ⟨b, off, none⟩) p.rules.length c1, vmn] 27)
  have HCC := Lib.hid (hcc.below hal hbl)
  have HSL := Lib.hid (hsl.below hal)
  have HM := Lib.hid (hm.below hal)
  have HD := Lib.hid (hd.below hal)
  have HOK := Lib.hid (bodyOk_valid hv hi)
  have HNG := Lib.hid (head_neg hv hi)
  have hn0 := (validP hv).n
  have hr0 := (validP hv).rules
  have HRR : Hid (rsR p i S D = if (w1B (ixR p.rules i) S || w2B (ixR p.rules i) S []) = true then [] else if p.n + 1 + (i : Int) ∈ D then [p.n + 1 + (i : Int)] else rs2 (ixR p.rules i) S D) := Lib.hid rfl
  clear hal hm hd hv hrules hcell hc hcc hsl
  go_enter Tryz.func34, Tryz.ntmps34
  go_upto_region 1 with fail
  generalize w.alloc (.cells #[.int .i64 p.n, vn, vs, .slice (some ⟨b, off, none⟩) p.rules.length c1, vmn] 27) = W0 at *
  have kx := HBK.out.cell
  obtain ⟨r0, r1, r2, r3, r4, r5⟩ := HCC.out
  generalize ixR p.rules i = r at *
  have hb6 := bal (Below.refl W0.heap.size W0) (.cells #[.bool r.choice, .slice ah r.head.length ch, .bool r.sum, .int .i64 r.bound, .slice ab r.body.length cb, .slice aw r.w.length cw] 54)
  have hs1 : AlSt w [.int .i64 p.n, vn, vs, .slice (some ⟨b, off, none⟩) p.rules.length c1, vmn] W0.heap.size [.bool r.choice, .slice ah r.head.length ch, .bool r.sum, .int .i64 r.bound, .slice ab r.body.length cb, .slice aw r.w.length cw] r (.slice ah r.head.length ch) (.slice ab r.body.length cb) (.slice aw r.w.length cw) (.slice am S.length cm) (.slice ad D.length cd) S D (W0.alloc (.cells #[.bool r.choice, .slice ah r.head.length ch, .bool r.sum, .int .i64 r.bound, .slice ab r.body.length cb, .slice aw r.w.length cw] 54)) :=
    ⟨HBK.out.below hb6, Blk.new W0 [.bool r.choice, .slice ah r.head.length ch, .bool r.sum, .int .i64 r.bound, .slice ab r.body.length cb, .slice aw r.w.length cw] _, HSL.out.below hb6, HM.out.below hb6, HD.out.below hb6, bon HAL.out hb6⟩
  have HS1 := Lib.hid hs1
  have kr1 := hs1.rbx.cell
  have kp1 := hs1.pbx.cell
  have zr1 := hs1.rbx.lt
  have zp1 := hs1.pbx.lt
  clear hs1 hb6
  go_upto_region 2 with fail
  generalize W0.alloc (.cells #[.bool r.choice, .slice ah r.head.length ch, .bool r.sum, .int .i64 r.bound, .slice ab r.body.length cb, .slice aw r.w.length cw] 54) = W1 at *
  generalize hrb : W0.heap.size = rb at *
  clear r0 r1 r2 r3 r4 r5 kx HSL HCC HM HD hrb
  obtain ⟨bI, hbI⟩ : ∃ x, p.n + 1 + (i : Int) = x := ⟨_, rfl⟩
  rw [hbI] at HRR
  have HBI : Hid (InI bI) := Lib.hid (by unfold InI; omega)
  cases h1 : w1B r S with
  | true =>
    rw [h1] at HRR
    have H1 := Lib.hid h1
    have HN : Hid (rsR p i S D = []) := Lib.hid (by rw [HRR.out]; rfl)
    clear h1
    go_wp2_with (go_at_call 91; (with_reducible refine (rway1_any _ _ r S _ HS1.out.rule HS1.out.set).mono ?_); rintro e w2 ⟨e2, hb2⟩; rw [H1.out] at e2; subst e2; have HS2 := Lib.hid (HS1.out.on hb2); have kr2 := HS2.out.rbx.cell; have kp2 := HS2.out.pbx.cell; have zr2 := HS2.out.rbx.lt; have zp2 := HS2.out.pbx.lt; clear hb2)
    go_ret
    exact ⟨_, rfl, by rw [HN.out]; exact QRow.nil _ _, HS2.out.below⟩
  | false =>
    rw [h1, Bool.false_or] at HRR
    have H1 := Lib.hid h1
    clear h1
    cases h2 : w2B r S [] with
    | true =>
      rw [h2] at HRR
      have H2 := Lib.hid h2
      have HN : Hid (rsR p i S D = []) := Lib.hid (by rw [HRR.out]; rfl)
      clear h2
      go_wp2_with (first | (go_at_call 92; (with_reducible refine (rway2_any _ _ _ r S [] _ HS2.out.rule HS2.out.set (nil_i27 _) HOK.out).mono ?_); rintro e w3 ⟨e3, hb3⟩; rw [H2.out] at e3; subst e3; have HS3 := Lib.hid (HS2.out.on hb3); have kr3 := HS3.out.rbx.cell; have kp3 := HS3.out.pbx.cell; have zr3 := HS3.out.rbx.lt; have zp3 := HS3.out.pbx.lt; clear hb3) | (go_at_call 91; (with_reducible refine (rway1_any _ _ r S _ HS1.out.rule HS1.out.set).mono ?_); rintro e w2 ⟨e2, hb2⟩; rw [H1.out] at e2; subst e2; have HS2 := Lib.hid (HS1.out.on hb2); have kr2 := HS2.out.rbx.cell; have kp2 := HS2.out.pbx.cell; have zr2 := HS2.out.rbx.lt; have zp2 := HS2.out.pbx.lt; clear hb2))
      go_ret
      exact ⟨_, rfl, by rw [HN.out]; exact QRow.nil _ _, HS3.out.below⟩
    | false =>
      rw [h2, if_neg Bool.false_ne_true] at HRR
      have H2 := Lib.hid h2
      clear h2
      by_cases hbD : bI ∈ D
      · have H3 : Hid (decide (bI ∈ D) = true) := Lib.hid (decide_eq_true hbD)
        have HN : Hid (rsR p i S D = [bI]) := Lib.hid (by rw [HRR.out, if_pos hbD])
        clear hbD
        go_wp2_with (first | (go_at_call 31; (with_reducible refine (in_any _ D _ HS3.out.dd bI).mono ?_); rintro e w5 ⟨e5, rfl⟩; rw [H3.out] at e5; subst e5) | (go_at_call 92; (with_reducible refine (rway2_any _ _ _ r S [] _ HS2.out.rule HS2.out.set (nil_i27 _) HOK.out).mono ?_); rintro e w3 ⟨e3, hb3⟩; rw [H2.out] at e3; subst e3; have HS3 := Lib.hid (HS2.out.on hb3); have kr3 := HS3.out.rbx.cell; have kp3 := HS3.out.pbx.cell; have zr3 := HS3.out.rbx.lt; have zp3 := HS3.out.pbx.lt; clear hb3) | (go_at_call 91; (with_reducible refine (rway1_any _ _ r S _ HS1.out.rule HS1.out.set).mono ?_); rintro e w2 ⟨e2, hb2⟩; rw [H1.out] at e2; subst e2; have HS2 := Lib.hid (HS1.out.on hb2); have kr2 := HS2.out.rbx.cell; have kp2 := HS2.out.pbx.cell; have zr2 := HS2.out.rbx.lt; have zp2 := HS2.out.pbx.lt; clear hb2))
        go_ret
        exact ⟨_, rfl, by rw [HN.out]; exact (qrow_box HBI.out _).mono (by have := HS3.out.below.size; omega), HS3.out.below.trans ((bal (Below.refl _ _) _).mono HS3.out.below.size)⟩
      · have H3 : Hid (decide (bI ∈ D) = false) := Lib.hid (decide_eq_false hbD)
        rw [if_neg hbD] at HRR
        clear hbD
        go_upto_region 7 with (first | (go_at_call 31; (with_reducible refine (in_any _ D _ HS3.out.dd bI).mono ?_); rintro e w5 ⟨e5, rfl⟩; rw [H3.out] at e5; subst e5) | (go_at_call 92; (with_reducible refine (rway2_any _ _ _ r S [] _ HS2.out.rule HS2.out.set (nil_i27 _) HOK.out).mono ?_); rintro e w3 ⟨e3, hb3⟩; rw [H2.out] at e3; subst e3; have HS3 := Lib.hid (HS2.out.on hb3); have kr3 := HS3.out.rbx.cell; have kp3 := HS3.out.pbx.cell; have zr3 := HS3.out.rbx.lt; have zp3 := HS3.out.pbx.lt; clear hb3) | (go_at_call 91; (with_reducible refine (rway1_any _ _ r S _ HS1.out.rule HS1.out.set).mono ?_); rintro e w2 ⟨e2, hb2⟩; rw [H1.out] at e2; subst e2; have HS2 := Lib.hid (HS1.out.on hb2); have kr2 := HS2.out.rbx.cell; have kp2 := HS2.out.pbx.cell; have zr2 := HS2.out.rbx.lt; have zp2 := HS2.out.pbx.lt; clear hb2))
        generalize Value.agg #[.bool r.choice, .slice ah r.head.length ch, .bool r.sum, .int .i64 r.bound, .slice ab r.body.length cb, .slice aw r.w.length cw] = ag
        clear kr1 kp1 zr1 zp1 kr2 kp2 zr2 zp2
        have HBX : Hid (∀ j, InI (ix r.body j)) := Lib.hid HS3.out.sl.body.2
        have HHX : Hid (∀ j, j < r.head.length → InI (-(ix r.head j)) ∧ IntKind.i64.wrap (-(ix r.head j)) = -(ix r.head j)) := Lib.hid (fun j hj => by
          have h1 := HNG.out j hj
          have h2 := HS3.out.sl.head.2 j
          unfold InI at h2
          refine ⟨by unfold InI; omega, ?_⟩
          rw [IntKind.wrap_i64]; omega)
        go_loop [10] (fun q => ∃ k : Nat, k ≤ r.body.length ∧ q = .int .i64 k ∧ Hid (∀ j, j < k → f1 r D j = false)) (fun q => r.body.length - (intOf q).toNat)
        case atStart => exact ⟨0, Nat.zero_le _, rfl, Lib.hid (fun j hj => absurd hj (Nat.not_lt_zero _))⟩
        case round =>
          obtain ⟨k, hk, rfl, HA⟩ := hrel
          by_cases hlt : k < r.body.length
          · obtain ⟨b2, o2, e2, hbw2, hc2⟩ := HS3.out.sl.body.at hlt
            have HF1 : Hid (f1 r D k = (!r.sum && decide (ix r.body k ∈ D))) := Lib.hid rfl
            have HHIT : Hid (r.sum = false → decide (ix r.body k ∈ D) = true → rs2 r S D = [ix r.body k]) := Lib.hid (rs2_hit hlt HA.out)
            have HXB := Lib.hid (HBX.out k)
            subst e2
            cases hs : r.sum with
            | true =>
              rw [hs] at HF1 kr3
              have HN := Lib.hid (lt_succ_all HA.out (show f1 r D k = false by rw [HF1.out]; rfl))
              clear hs
              go_wp2
              first
                | (go_round
                   case rel => (exact ⟨k + 1, by omega, by go_num, HN⟩)
                   case measure => (simp [intOf]; omega))
                | (refine ⟨?_, ?_⟩
                   · (exact ⟨k + 1, by omega, by go_num, HN⟩)
                   · (simp [intOf]; omega))
            | false =>
              rw [hs] at HF1 kr3
              cases hdd : decide (ix r.body k ∈ D) with
              | false =>
                rw [hdd] at HF1
                have HDD := Lib.hid hdd
                have HN := Lib.hid (lt_succ_all HA.out (show f1 r D k = false by rw [HF1.out]; rfl))
                clear hs hdd
                go_wp2_with (go_at_call 31; (with_reducible refine (in_any _ D _ HS3.out.dd (ix r.body k)).mono ?_); rintro e w5 ⟨e5, rfl⟩; rw [HDD.out] at e5; subst e5)
                first
                  | (go_round
                     case rel => (exact ⟨k + 1, by omega, by go_num, HN⟩)
                     case measure => (simp [intOf]; omega))
                  | (refine ⟨?_, ?_⟩
                     · (exact ⟨k + 1, by omega, by go_num, HN⟩)
                     · (simp [intOf]; omega))
              | true =>
                have HDD := Lib.hid hdd
                have HN : Hid (rsR p i S D = [ix r.body k]) := Lib.hid (by rw [HRR.out]; exact HHIT.out hs hdd)
                clear hs hdd
                go_wp2_with (go_at_call 31; (with_reducible refine (in_any _ D _ HS3.out.dd (ix r.body k)).mono ?_); rintro e w5 ⟨e5, rfl⟩; rw [HDD.out] at e5; subst e5)
                go_ret
                exact ⟨_, rfl, by rw [HN.out]; exact (qrow_box HXB.out _).mono (by have := HS3.out.below.size; omega), HS3.out.below.trans ((bal (Below.refl _ _) _).mono HS3.out.below.size)⟩
          · have HR2 : Hid (rsR p i S D = rs3 r S D) := Lib.hid (by rw [HRR.out]; exact rs2_miss fun j hj => HA.out j (by omega))
            obtain rfl : k = r.body.length := by omega
            clear HA
            go_upto_region 12 with fail
            go_loop [11] (fun q => ∃ k : Nat, k ≤ r.head.length ∧ q = .int .i64 k ∧ Hid (∀ j, j < k → f2 r S D j = false)) (fun q => r.head.length - (intOf q).toNat)
            case atStart => exact ⟨0, Nat.zero_le _, rfl, Lib.hid (fun j hj => absurd hj (Nat.not_lt_zero _))⟩
            case round =>
              obtain ⟨k, hk2, rfl, HA⟩ := hrel
              by_cases hlt2 : k < r.head.length
              · obtain ⟨b2, o2, e2, hbw2, hc2⟩ := HS3.out.sl.head.at hlt2
                have HF2 : Hid (f2 r S D k = (!r.choice && (!decide (ix r.head k ∈ S) && decide (-(ix r.head k) ∈ D)))) := Lib.hid rfl
                have HHIT : Hid (r.choice = false → (!decide (ix r.head k ∈ S) && decide (-(ix r.head k) ∈ D)) = true → rs3 r S D = [-(ix r.head k)]) := Lib.hid (rs3_hit hlt2 HA.out)
                have HXB := Lib.hid (HHX.out k hlt2).1
                have hwn := (HHX.out k hlt2).2
                subst e2
                cases hs : r.choice with
                | true =>
                  rw [hs] at HF2 kr3
                  have HN := Lib.hid (lt_succ_all HA.out (show f2 r S D k = false by rw [HF2.out]; rfl))
                  clear hs
                  go_wp2
                  first
                    | (go_round
                       case rel => (exact ⟨k + 1, by omega, by go_num, HN⟩)
                       case measure => (simp [intOf]; omega))
                    | (refine ⟨?_, ?_⟩
                       · (exact ⟨k + 1, by omega, by go_num, HN⟩)
                       · (simp [intOf]; omega))
                | false =>
                  rw [hs] at HF2 kr3
                  cases hss : decide (ix r.head k ∈ S) with
                  | true =>
                    rw [hss] at HF2
                    have HSS := Lib.hid hss
                    have HN := Lib.hid (lt_succ_all HA.out (show f2 r S D k = false by rw [HF2.out]; rfl))
                    clear hs hss
                    go_wp2_with (go_at_call 31; (with_reducible refine (in_any _ S _ HS3.out.set (ix r.head k)).mono ?_); rintro e w5 ⟨e5, rfl⟩; rw [HSS.out] at e5; subst e5)
                    first
                      | (go_round
                         case rel => (exact ⟨k + 1, by omega, by go_num, HN⟩)
                         case measure => (simp [intOf]; omega))
                      | (refine ⟨?_, ?_⟩
                         · (exact ⟨k + 1, by omega, by go_num, HN⟩)
                         · (simp [intOf]; omega))
                  | false =>
                    rw [hss] at HF2
                    have HSS := Lib.hid hss
                    cases hdd : decide (-(ix r.head k) ∈ D) with
                    | false =>
                      rw [hdd] at HF2
                      have HDD := Lib.hid hdd
                      have HN := Lib.hid (lt_succ_all HA.out (show f2 r S D k = false by rw [HF2.out]; rfl))
                      clear hs hss hdd
                      go_wp2_with (first | (go_at_call 31; (with_reducible refine (in_any _ D _ HS3.out.dd (-(ix r.head k))).mono ?_); rintro e w5 ⟨e5, rfl⟩; rw [HDD.out] at e5; subst e5) | (go_at_call 31; (with_reducible refine (in_any _ S _ HS3.out.set (ix r.head k)).mono ?_); rintro e w5 ⟨e5, rfl⟩; rw [HSS.out] at e5; subst e5))
                      first
                        | (go_round
                           case rel => (exact ⟨k + 1, by omega, by go_num, HN⟩)
                           case measure => (simp [intOf]; omega))
                        | (refine ⟨?_, ?_⟩
                           · (exact ⟨k + 1, by omega, by go_num, HN⟩)
                           · (simp [intOf]; omega))
                    | true =>
                      have HDD := Lib.hid hdd
                      have HN : Hid (rsR p i S D = [-(ix r.head k)]) := Lib.hid (by rw [HR2.out]; exact HHIT.out hs (by rw [hss, hdd]; rfl))
                      clear hs hss hdd
                      go_wp2_with (first | (go_at_call 31; (with_reducible refine (in_any _ D _ HS3.out.dd (-(ix r.head k))).mono ?_); rintro e w5 ⟨e5, rfl⟩; rw [HDD.out] at e5; subst e5) | (go_at_call 31; (with_reducible refine (in_any _ S _ HS3.out.set (ix r.head k)).mono ?_); rintro e w5 ⟨e5, rfl⟩; rw [HSS.out] at e5; subst e5))
                      go_ret
                      exact ⟨_, rfl, by rw [HN.out]; exact (qrow_box HXB.out _).mono (by have := HS3.out.below.size; omega), HS3.out.below.trans ((bal (Below.refl _ _) _).mono HS3.out.below.size)⟩
              · have HR3 : Hid (rsR p i S D = fil r S D r.body.length) := Lib.hid (by rw [HR2.out]; exact rs3_miss fun j hj => HA.out j (by omega))
                obtain rfl : k = r.head.length := by omega
                clear HA
                have hlen := HOK.out.len
                go_upto_region 18 with fail
                clear kr3 zr3
                go_loopw [12, 13] (fun o q wx => RsRel3 w w3 [.int .i64 p.n, vn, vs, .slice (some ⟨b, off, none⟩) p.rules.length c1, vmn] rb [.bool r.choice, .slice ah r.head.length ch, .bool r.sum, .int .i64 r.bound, .slice ab r.body.length cb, .slice aw r.w.length cw] r (.slice ah r.head.length ch) (.slice ab r.body.length cb) (.slice aw r.w.length cw) (.slice am S.length cm) (.slice ad D.length cd) S D o q wx) (fun _ q _ => r.body.length - (intOf q).toNat)
                case atStart => exact ⟨0, Nat.zero_le _, rfl, ⟨_, _, _, rfl⟩, QRow.nil _ _, HS3.out, Below.refl _ _⟩
                case round =>
                  obtain ⟨k, hk3, rfl, ⟨ao, no, co, rfl⟩, hq, hst, hb⟩ := hrel
                  have HST := Lib.hid hst
                  have HB := Lib.hid hb
                  have HQ := Lib.hid hq
                  have kr := hst.rbx.cell
                  have zr := hst.rbx.lt
                  have hzr := hb.size
                  have hfl := fil_len r S D k
                  by_cases hlt3 : k < r.body.length
                  · obtain ⟨b2, o2, e2, hbw2, hc2⟩ := hst.sl.body.at hlt3
                    subst e2
                    have HXB := Lib.hid (HBX.out k)
                    have HFN : Hid (fil r S D (k + 1) = fil r S D k ++ (if (!intB S (ix r.body k) && decide (ix r.body k ∈ D)) = true then [ix r.body k] else [])) := Lib.hid (fil_next hlt3)
                    have HIN := Lib.hid (rint_any _ S (ix r.body k) wr HST.out.set)
                    have HID := Lib.hid (in_any _ D wr HST.out.dd (ix r.body k))
                    clear hq hst hb
                    cases hii : intB S (ix r.body k) with
                    | true =>
                      rw [hii] at HFN HIN
                      clear hii
                      go_wp2_with (go_at_call 93; (with_reducible refine (HIN.out).mono ?_); rintro e w5 ⟨rfl, rfl⟩)
                      go_roundw
                      case rel => exact ⟨k + 1, hlt3, by go_num, ⟨_, _, _, rfl⟩, by rw [HFN.out]; simpa using HQ.out, HST.out, HB.out⟩
                      case measure => (simp [intOf]; omega)
                    | false =>
                      rw [hii] at HFN HIN
                      clear hii
                      cases hdd : decide (ix r.body k ∈ D) with
                      | false =>
                        rw [hdd] at HFN HID
                        clear hdd
                        go_wp2_with (first | (go_at_call 31; (with_reducible refine (HID.out).mono ?_); rintro e w6 ⟨rfl, rfl⟩) | (go_at_call 93; (with_reducible refine (HIN.out).mono ?_); rintro e w5 ⟨rfl, rfl⟩))
                        go_roundw
                        case rel => exact ⟨k + 1, hlt3, by go_num, ⟨_, _, _, rfl⟩, by rw [HFN.out]; simpa using HQ.out, HST.out, HB.out⟩
                        case measure => (simp [intOf]; omega)
                      | true =>
                        rw [hdd] at HFN HID
                        clear hdd
                        have HFN2 : Hid (fil r S D (k + 1) = fil r S D k ++ [ix r.body k]) := Lib.hid (by rw [HFN.out]; rfl)
                        have HQ2 := Lib.hid (HQ.out.below (bal (Below.refl wr.heap.size wr) (.cells #[.int .i64 (ix r.body k)] 3)))
                        go_wp2_with (first
                          | (at_builtin; refine wpList_appendQ rfl _ _ 23 Tryz.underlying23 rfl w3.heap.size _ (fil r S D k) (ix r.body k) rfl HQ2.out wr.heap.size 1 rfl (Blk.new wr [.int .i64 (ix r.body k)] _) HXB.out (by omega) (by simp; omega) ?_; intro v5 w5 hq5 hg5 ho5; have hb5 := below_grown HB.out (fun g e => (HQ.out.base e).1) hg5; have HB5 := Lib.hid hb5; have HS5 := Lib.hid (HS3.out.on hb5); have HQ5 := Lib.hid hq5; obtain ⟨a5, n5, c5, rfl⟩ := hq5.form; clear hq5 hg5 ho5 hb5)
                          | (go_at_call 31; (with_reducible refine (HID.out).mono ?_); rintro e w6 ⟨rfl, rfl⟩)
                          | (go_at_call 93; (with_reducible refine (HIN.out).mono ?_); rintro e w5 ⟨rfl, rfl⟩))
                        go_roundw
                        case rel => exact ⟨k + 1, hlt3, by go_num, ⟨_, _, _, rfl⟩, by rw [HFN2.out]; exact HQ5.out, HS5.out, HB5.out⟩
                        case measure => (simp [intOf]; omega)
                  · obtain rfl : k = r.body.length := by omega
                    clear hq hst hb
                    go_wp2
                    go_ret
                    exact ⟨_, rfl, by rw [HR3.out]; exact HQ.out.mono HS3.out.below.size, HST.out.below⟩

end Go.Proofs.YtfhpfbakoiekpaaGreatDoor

/- ostlerref27: Make. -/
namespace Go.Proofs.YtfhpfbakoiekpaaGreatDoor
open Go.RowKit

theorem rsR_len (p : GP) (i : Nat) (S D : List Int) : (rsR p i S D).length ≤ (ixR p.rules i).body.length + 1 := by
  unfold rsR
  split
  · simp
  · split
    · simp
    · unfold rs2
      split
      · simp
      · unfold rs3
        split
        · simp
        · exact Nat.le_trans (List.length_filter_le _ _) (Nat.le_succ _)
theorem rsTo_len {p : GP} {S D : List Int} (hf : ∀ i, i < p.rules.length → (ixR p.rules i).body.length ≤ 20) : ∀ k, k ≤ p.rules.length → (rsTo p S D k).length ≤ 21 * k
  | 0, _ => by simp [rsTo]
  | k + 1, hk => by
    have ih := rsTo_len (S := S) (D := D) hf k (by omega)
    have h1 := hf k (by omega)
    have h2 := rsR_len p k S D
    unfold rsTo
    rw [List.length_append]
    split
    · omega
    · simp; omega

/-- What Make leans on. -/
structure M27 (w : World) (cp : List Value) (vp va vS : Value) (p : GP) (a S : List Int) (W : World) : Prop where
  pbx : Blk W w.heap.size cp 27
  rbx : Blk W (w.heap.size + 1) pbZ 30
  prog : ProgIs W vp p
  asg : Bytes8 W va a
  set : Ints W vS S
  below : Below w.heap.size w W
theorem M27.on {w : World} {cp : List Value} {vp va vS : Value} {p : GP} {a S : List Int} {W W' : World} (h : M27 w cp vp va vS p a S W) (hb : Below W.heap.size W W') : M27 w cp vp va vS p a S W' :=
  ⟨h.pbx.below hb, h.rbx.below hb, h.prog.below hb, h.asg.below hb, h.set.below hb, bon h.below hb⟩

def MkRel27 (w W4 : World) (cp : List Value) (vp va vS vd : Value) (p : GP) (a S D : List Int) (u : Int) (o i : Value) (wx : World) : Prop :=
  ∃ k : Nat, k ≤ p.rules.length ∧ i = .int .i64 k ∧ (∃ x n c, o = .slice x n c) ∧ QRow W4.heap.size wx o ([-u] ++ rsTo p S D k) ∧ M27 w cp vp va vS p a S wx ∧ Ints wx vd D ∧ Below W4.heap.size W4 wx

set_option maxHeartbeats 8000000 in
set_option maxRecDepth 100000 in
theorem rmake_any (v va vm : Value) (p : GP) (a S : List Int) (u : Int) (w : World) (h : ProgIs w v p) (ha : Bytes8 w va a) (hm : Ints w vm S) (hf : ∀ i, i < p.rules.length → (ixR p.rules i).body.length ≤ 20) (hf2 : p.rules.length ≤ 12) :
    Calls Tryz.prog 8 #[v, va, vm, .int .i64 u] w fun e w' => ∃ vp, e = .returned (.tuple #[vp, .int .i64 (makeR p a S u).2]) ∧ PBQ w.heap.size w' vp (makeR p a S u).1 ∧ Below w.heap.size w w' := by
  have h0 := h
  obtain ⟨vn, vs, vr, vmn, rfl, hPS⟩ := h
  obtain ⟨a1, c1, rfl, -, hl1, -, hcell⟩ := hPS.rules.form
  obtain ⟨a2, n2, c2, rfl⟩ : ∃ x n c, va = .slice x n c := by
    obtain ⟨⟨x, c, rfl, -⟩, -⟩ := ha
    exact ⟨_, _, _, rfl⟩
  obtain ⟨a3, c3, rfl, -⟩ := hm.form
  have hal := bal (bal (Below.refl w.heap.size w) (.cells #[.int .i64 p.n, vn, vs, .slice a1 p.rules.length c1, vmn] 27)) (.cells #[.slice none 0 0, .slice none 0 0, .int .i64 0] 30)
  have hst : M27 w [.int .i64 p.n, vn, vs, .slice a1 p.rules.length c1, vmn] (.agg #[.int .i64 p.n, vn, vs, .slice a1 p.rules.length c1, vmn]) (.slice a2 n2 c2) (.slice a3 S.length c3) p a S ((w.alloc (.cells #[.int .i64 p.n, vn, vs, .slice a1 p.rules.length c1, vmn] 27)).alloc (.cells #[.slice none 0 0, .slice none 0 0, .int .i64 0] 30)) :=
    ⟨(Blk.new w [.int .i64 p.n, vn, vs, .slice a1 p.rules.length c1, vmn] _).alloc _, Blk.new2 w _ pbZ _, h0.below hal, ha.below hal, hm.below hal, hal⟩
  have HS0 := Lib.hid hst
  have kp0 := hst.pbx.cell
  have kz0 := hst.rbx.cell
  have kf0 := hst.rbx.free
  have zp0 := hst.pbx.lt
  have zz0 := hst.rbx.lt
  have HF := Lib.hid hf
  have HCL := Lib.hid hcell
  have HMK : Hid (makeR p a S u = if (unfR p a S && decide (u ∈ S)) = true then refClause ([-u] ++ rsTo p S (falL p a) p.rules.length) else (⟨[], [], 0⟩, 2)) := Lib.hid rfl
  clear h0 hPS ha hm hal hst hcell hf
  go_enter Tryz.func8, Tryz.ntmps8
  go_upto_region 1 with fail
  generalize (w.alloc (.cells #[.int .i64 p.n, vn, vs, .slice a1 p.rules.length c1, vmn] 27)).alloc (.cells #[.slice none 0 0, .slice none 0 0, .int .i64 0] 30) = W0 at *
  cases hun : unfR p a S with
  | false =>
    have HUN := Lib.hid hun
    have HN : Hid (makeR p a S u = (⟨[], [], 0⟩, 2)) := Lib.hid (by rw [HMK.out, hun]; rfl)
    have HIU := HUN
    clear hun
    go_wp2_with (first | (go_at_call 31; (with_reducible refine (in_any _ S _ HS1.out.set u).mono ?_); rintro e w5 ⟨e5, rfl⟩; rw [HIU.out] at e5; subst e5) | (go_at_call 10; (with_reducible refine (runf_any _ _ _ p a S _ HS0.out.prog HS0.out.asg HS0.out.set).mono ?_); rintro e w1 ⟨e1, hb1⟩; rw [HUN.out] at e1; subst e1; have HS1 := Lib.hid (HS0.out.on hb1); have kp1 := HS1.out.pbx.cell; have kz1 := HS1.out.rbx.cell; have kf1 := HS1.out.rbx.free; have zp1 := HS1.out.pbx.lt; have zz1 := HS1.out.rbx.lt; clear hb1))
    refine bodyPost_ret (v := .tuple #[.agg #[.slice none 0 0, .slice none 0 0, .int .i64 0], .int .i64 2]) (by simp [results, Tryz.f8, go_sem, *]) rfl ⟨_, by rw [HN.out], by rw [HN.out]; exact ⟨_, _, rfl, QRow.nil _ _, QRow.nil _ _, (by unfold InI; decide), (by simp), (by simp)⟩, below3 HS1.out.below _ (Nat.le_succ _) _ _ _⟩
  | true =>
    have HUN := Lib.hid hun
    cases hiu : decide (u ∈ S) with
    | false =>
      have HIU := Lib.hid hiu
      have HN : Hid (makeR p a S u = (⟨[], [], 0⟩, 2)) := Lib.hid (by rw [HMK.out, hun, hiu]; rfl)
      clear hun hiu
      go_wp2_with (first | (go_at_call 31; (with_reducible refine (in_any _ S _ HS1.out.set u).mono ?_); rintro e w5 ⟨e5, rfl⟩; rw [HIU.out] at e5; subst e5) | (go_at_call 10; (with_reducible refine (runf_any _ _ _ p a S _ HS0.out.prog HS0.out.asg HS0.out.set).mono ?_); rintro e w1 ⟨e1, hb1⟩; rw [HUN.out] at e1; subst e1; have HS1 := Lib.hid (HS0.out.on hb1); have kp1 := HS1.out.pbx.cell; have kz1 := HS1.out.rbx.cell; have kf1 := HS1.out.rbx.free; have zp1 := HS1.out.pbx.lt; have zz1 := HS1.out.rbx.lt; clear hb1))
      refine bodyPost_ret (v := .tuple #[.agg #[.slice none 0 0, .slice none 0 0, .int .i64 0], .int .i64 2]) (by simp [results, Tryz.f8, go_sem, *]) rfl ⟨_, by rw [HN.out], by rw [HN.out]; exact ⟨_, _, rfl, QRow.nil _ _, QRow.nil _ _, (by unfold InI; decide), (by simp), (by simp)⟩, below3 HS1.out.below _ (Nat.le_succ _) _ _ _⟩
    | true =>
      have HIU := Lib.hid hiu
      have HN : Hid (makeR p a S u = refClause ([-u] ++ rsTo p S (falL p a) p.rules.length)) := Lib.hid (by rw [HMK.out, hun, hiu]; rfl)
      have hu0 := hun
      unfold unfR at hu0
      rw [Bool.and_eq_true, Bool.and_eq_true, decide_eq_true_eq] at hu0
      have HV := Lib.hid hu0.1.1
      have hur := setB_mem hu0.1.2 (of_decide_eq_true hiu)
      have hn0 := (validP hu0.1.1).n
      have HLN : Hid ((falL p a).length ≤ 50000) := Lib.hid (by
        have h1 := falTo_len a (p.n + p.rules.length).toNat
        unfold falL
        omega)
      have hwn : IntKind.i64.wrap (-u) = -u := by rw [IntKind.wrap_i64]; omega
      have HUI : Hid (InI (-u)) := Lib.hid (by unfold InI; omega)
      clear hun hiu hu0
      obtain ⟨D, hD⟩ : ∃ D, falL p a = D := ⟨_, rfl⟩
      rw [hD] at HN HLN
      have HD := Lib.hid hD
      have HRL := Lib.hid (fun k (hk : k ≤ p.rules.length) => rsTo_len (S := S) (D := D) HF.out k hk)
      clear hD
      go_upto_region 4 with (first
        | (go_at_call 32; (with_reducible refine (rfal_any _ _ p a _ HS1.out.prog HS1.out.asg HV.out).mono ?_); rintro e w2 ⟨vd, rfl, hq2, hb2⟩; rw [HD.out] at hq2; have HDI := Lib.hid (hq2.ints (by have := HLN.out; omega)); obtain ⟨ad, nd, cd, rfl⟩ := hq2.form; have HS2 := Lib.hid (HS1.out.on hb2); have kp2 := HS2.out.pbx.cell; have kz2 := HS2.out.rbx.cell; have kf2 := HS2.out.rbx.free; have zp2 := HS2.out.pbx.lt; have zz2 := HS2.out.rbx.lt; clear hb2; clear hq2)
        | (go_at_call 31; (with_reducible refine (in_any _ S _ HS1.out.set u).mono ?_); rintro e w5 ⟨e5, rfl⟩; rw [HIU.out] at e5; subst e5)
        | (go_at_call 10; (with_reducible refine (runf_any _ _ _ p a S _ HS0.out.prog HS0.out.asg HS0.out.set).mono ?_); rintro e w1 ⟨e1, hb1⟩; rw [HUN.out] at e1; subst e1; have HS1 := Lib.hid (HS0.out.on hb1); have kp1 := HS1.out.pbx.cell; have kz1 := HS1.out.rbx.cell; have kf1 := HS1.out.rbx.free; have zp1 := HS1.out.pbx.lt; have zz1 := HS1.out.rbx.lt; clear hb1))
      go_upto_region 6 with fail
      have hal3 := bal (Below.refl w2.heap.size w2) (.cells #[.int .i64 (-u)] 3)
      have HS3 := Lib.hid (HS2.out.on hal3)
      have HD3 := Lib.hid (HDI.out.below hal3)
      have HQ3 := Lib.hid (qrow_box HUI.out w2)
      have hz3 := HS2.out.below.size
      have hal4 := hal3
      clear hal3 kp0 kz0 kf0 zp0 zz0 kp1 kz1 kf1 zp1 zz1 kp2 kz2 kf2 zp2 hwn
      have HAL3 := Lib.hid hal4
      have hz23 := hal4.size
      clear hal4
      generalize hw3 : w2.alloc (.cells #[.int .i64 (-u)] 3) = w3 at *
      clear hw3
      go_loopw [11, 12] (fun o i wx => MkRel27 w w2 [.int .i64 p.n, vn, vs, .slice a1 p.rules.length c1, vmn] (.agg #[.int .i64 p.n, vn, vs, .slice a1 p.rules.length c1, vmn]) (.slice a2 n2 c2) (.slice a3 S.length c3) (.slice ad nd cd) p a S D u o i wx) (fun _ i _ => p.rules.length - (intOf i).toNat)
      case atStart => exact ⟨0, Nat.zero_le _, rfl, ⟨_, _, _, rfl⟩, by simpa [rsTo] using HQ3.out, HS3.out, HD3.out, HAL3.out⟩
      case round =>
        obtain ⟨k, hk, rfl, ⟨ao, no, co, rfl⟩, hq, hst, hdi, hb⟩ := hrel
        have HQ := Lib.hid hq
        have HST := Lib.hid hst
        have HDD := Lib.hid hdi
        have HB := Lib.hid hb
        have kp := hst.pbx.cell
        have kz := hst.rbx.cell
        have kf := hst.rbx.free
        have zp := hst.pbx.lt
        have zz := hst.rbx.lt
        have hzr := hb.size
        have hrl := HRL.out k hk
        have hlen : ([-u] ++ rsTo p S D k).length ≤ 300 := by rw [List.length_append]; simp; omega
        by_cases hlt : k < p.rules.length
        · obtain ⟨b, off, rfl, hbl, hc⟩ := HCL.out (by omega)
          obtain ⟨vh, vb, vw, hcc, hsl⟩ := hc k hlt
          obtain ⟨r0, r1, r2, r3, r4, r5⟩ := hcc.below hst.below hbl
          obtain ⟨ah, ch, rfl, -, -, -, -⟩ := hsl.head.form
          obtain ⟨ab, cb, rfl, -, -, -, -⟩ := hsl.body.form
          obtain ⟨aw, cw, rfl, -, -, -, -⟩ := hsl.wts.form
          have HTC := Lib.hid (rtou_any (.agg #[.bool (ixR p.rules k).choice, .slice ah (ixR p.rules k).head.length ch, .bool (ixR p.rules k).sum, .int .i64 (ixR p.rules k).bound, .slice ab (ixR p.rules k).body.length cb, .slice aw (ixR p.rules k).w.length cw]) _ (ixR p.rules k) S wr ⟨_, _, _, rfl, hsl.below hst.below⟩ HST.out.set)
          have HRN : Hid (rsTo p S D (k + 1) = rsTo p S D k ++ (if headIn S (ixR p.rules k) then rsR p k S D else [])) := Lib.hid rfl
          have hrr := rsR_len p k S D
          have hbk := HF.out k hlt
          clear hc hcc hsl hq hst hdi hb
          cases hT : headIn S (ixR p.rules k) with
          | false =>
            rw [hT, if_neg Bool.false_ne_true, List.append_nil] at HRN
            rw [hT] at HTC
            clear hT
            go_wp2_with (go_at_call 33; (with_reducible refine (HTC.out).mono ?_); rintro e w5 ⟨rfl, hb5⟩; have HS5 := Lib.hid (HST.out.on hb5); have HQ5 := Lib.hid (HQ.out.below hb5); have HD5 := Lib.hid (HDD.out.below hb5); have HB5 := Lib.hid (bon HB.out hb5); clear hb5)
            go_roundw
            case rel => exact ⟨k + 1, hlt, by go_num, ⟨_, _, _, rfl⟩, by rw [HRN.out]; exact HQ5.out, HS5.out, HD5.out, HB5.out⟩
            case measure => (simp [intOf]; omega)
          | true =>
            rw [hT, if_pos rfl] at HRN
            rw [hT] at HTC
            clear hT
            go_wp2_with (first
              | (at_builtin; refine wpList_appendQs rfl _ _ rfl w2.heap.size _ _ ([-u] ++ rsTo p S D k) (rsR p k S D) rfl rfl HQ6.out HI6.out (by omega) (by have := HB6.out.size; omega) ?_; intro v7 w7 hq7 hg7 ho7; have hb7 := HB6.out.trans (below_row hg7 HB6.out.size fun g e => (HQ6.out.base e).1); have HB7 := Lib.hid hb7; have HS7 := Lib.hid (HS2.out.on hb7); have HD7 := Lib.hid (HDI.out.below hb7); have HQ7 := Lib.hid hq7; obtain ⟨a7, n7, c7, rfl⟩ := hq7.form; clear hq7 hg7 ho7 hb7)
              | (go_at_call 34; (with_reducible refine (rreas_any _ _ _ p k S D w5 HS5.out.prog HS5.out.set HD5.out HV.out hlt).mono ?_); rintro e w6 ⟨vo, rfl, hq6, hb6⟩; have HI6 := Lib.hid (hq6.ints (by omega)); obtain ⟨a6, n6, c6, rfl⟩ := hq6.form; have HQ6 := Lib.hid (HQ5.out.below hb6); have HB6 := Lib.hid (bon HB5.out hb6); clear hq6 hb6)
              | (go_at_call 33; (with_reducible refine (HTC.out).mono ?_); rintro e w5 ⟨rfl, hb5⟩; have HS5 := Lib.hid (HST.out.on hb5); have HQ5 := Lib.hid (HQ.out.below hb5); have HD5 := Lib.hid (HDD.out.below hb5); have HB5 := Lib.hid (bon HB.out hb5); have kp5 := HS5.out.pbx.cell; have zp5 := HS5.out.pbx.lt; clear hb5))
            go_roundw
            case rel => exact ⟨k + 1, hlt, by go_num, ⟨_, _, _, rfl⟩, by rw [HRN.out, ← List.append_assoc]; exact HQ7.out, HS7.out, HD7.out, HB7.out⟩
            case measure => (simp [intOf]; omega)
        · obtain rfl : k = p.rules.length := by omega
          have HI := Lib.hid (hq.ints (by omega))
          have HC := Lib.hid (rclause_any _ ([-u] ++ rsTo p S D p.rules.length) wr HI.out (by omega))
          clear hq hst hdi hb
          obtain ⟨⟨R, E⟩, hRE⟩ : ∃ RE, refClause ([-u] ++ rsTo p S D p.rules.length) = RE := ⟨_, rfl⟩
          rw [hRE] at HC HN
          dsimp only at HC
          clear hRE
          go_wp2_with (go_at_call 35; (with_reducible refine (HC.out).mono ?_); rintro e w1 ⟨vp, rfl, ⟨ul, uk, rfl, hq1, hq2, hq3, hq4, hq5⟩, hb1⟩; have HB1 := Lib.hid (bon HST.out.below hb1); have HX1 := Lib.hid (HST.out.rbx.below hb1); have kz1 := HX1.out.cell; have kf1 := HX1.out.free; have HQ1 := Lib.hid hq1; have HQ2 := Lib.hid hq2; have HQ3' := Lib.hid hq3; have HQ4 := Lib.hid hq4; have HQ5 := Lib.hid hq5; obtain ⟨au, cu, rfl⟩ := hq1.slen; obtain ⟨ak, ck, rfl⟩ := hq2.slen; clear hq1 hq2 hq3 hq4 hq5 hb1)
          have hQ1 := HQ1.out
          have hQ2 := HQ2.out
          refine bodyPost_ret (v := .tuple #[.agg #[.slice au R.lits.length cu, .slice ak R.coefs.length ck, .int .i64 R.bound], .int .i64 E]) (by simp [results, Tryz.f8, go_sem, *]) rfl ⟨_, by rw [HN.out], by rw [HN.out]; exact ⟨_, _, rfl, (row3 hQ1 (w.heap.size + 1) (by omega) _ _ _).mono (by omega), (row3 hQ2 (w.heap.size + 1) (by omega) _ _ _).mono (by omega), HQ3'.out, HQ4.out, HQ5.out⟩, below3 HB1.out _ (Nat.le_succ _) _ _ _⟩

end Go.Proofs.YtfhpfbakoiekpaaGreatDoor

/- The program of the chapters' example. -/
namespace Go.Proofs.YtfhpfbakoiekpaaGreatDoor
open Go.RowKit

def loopP : GP := ⟨3, [⟨#[97]⟩, ⟨#[98]⟩, ⟨#[99]⟩], [], [⟨false, [1], false, 0, [2], []⟩, ⟨false, [2], false, 0, [1], []⟩, ⟨false, [1], false, 0, [3], []⟩, ⟨true, [3], false, 0, [], []⟩], []⟩

def loopCells (m : Nat) : List Value :=
  [.bool false, .slice (some ⟨m + 1, 0, none⟩) 1 1, .bool false, .int .i64 0, .slice (some ⟨m + 2, 0, none⟩) 1 1, .slice none 0 0,
   .bool false, .slice (some ⟨m + 3, 0, none⟩) 1 1, .bool false, .int .i64 0, .slice (some ⟨m + 4, 0, none⟩) 1 1, .slice none 0 0,
   .bool false, .slice (some ⟨m + 5, 0, none⟩) 1 1, .bool false, .int .i64 0, .slice (some ⟨m + 6, 0, none⟩) 1 1, .slice none 0 0,
   .bool true, .slice (some ⟨m + 7, 0, none⟩) 1 1, .bool false, .int .i64 0, .slice none 0 0, .slice none 0 0]

theorem loop_prog {m : Nat} {w : World} (b1 : Blk w (m) [.string ⟨#[97]⟩, .string ⟨#[98]⟩, .string ⟨#[99]⟩] 9) (b2 : Blk w (m + 1) [.int .i64 1] 3) (b3 : Blk w (m + 2) [.int .i64 2] 3) (b4 : Blk w (m + 3) [.int .i64 2] 3)
    (b5 : Blk w (m + 4) [.int .i64 1] 3) (b6 : Blk w (m + 5) [.int .i64 1] 3) (b7 : Blk w (m + 6) [.int .i64 3] 3) (b8 : Blk w (m + 7) [.int .i64 3] 3) (b9 : Blk w (m + 8) (loopCells m) 54) :
    ProgIs w (.agg #[.int .i64 3, .slice (some ⟨m, 0, none⟩) 3 3, .slice none 0 0, .slice (some ⟨m + 8, 0, none⟩) 4 4, .slice none 0 0]) loopP := by
  have i1 : InI 1 := by unfold InI; omega
  have i2 : InI 2 := by unfold InI; omega
  have i3 : InI 3 := by unfold InI; omega
  have i0 : InI 0 := by unfold InI; omega
  refine ⟨_, _, _, _, rfl, i3, ⟨⟨_, 3, rfl, Nat.le_refl _, by unfold maxLen; omega, by simp [loopP], fun _ => ⟨m, 0, rfl, b1.lt, fun i hi => ?_⟩⟩, fun i => ?_⟩, nil_ints w, ?_, ⟨fun _ => nilS, fun _ => nilS, ⟨none, 0, rfl, Nat.le_refl _, by unfold maxLen; omega, by simp [loopP], fun h => absurd h (by simp [loopP])⟩, fun i hi => absurd hi (by simp [loopP])⟩⟩
  · rw [b1.cell]
    simp only [loopP, List.length_cons, List.length_nil] at hi
    rcases (show i = 0 ∨ i = 1 ∨ i = 2 by omega) with rfl | rfl | rfl <;> rfl
  · have hs : ∀ l : List ByteArray, (∀ x ∈ l, x.size ≤ 1) → (ixS l i).size ≤ 140737488351232 := fun l hl => by
      unfold ixS
      rw [List.getD_eq_getElem?_getD]
      cases h : l[i]? with
      | none => decide
      | some x =>
        have := hl x (List.mem_of_getElem? h)
        simp only [Option.getD_some]
        omega
    refine hs _ (fun x hx => ?_)
    simp only [loopP, List.mem_cons, List.not_mem_nil, or_false] at hx
    rcases hx with rfl | rfl | rfl <;> decide
  · refine ⟨fun i => .slice (some ⟨m + 1 + 2 * i, 0, none⟩) 1 1, fun i => if i < 3 then .slice (some ⟨m + 2 + 2 * i, 0, none⟩) 1 1 else .slice none 0 0, fun _ => .slice none 0 0, ⟨_, 4, rfl, Nat.le_refl _, by unfold maxLen; omega, by simp [loopP], fun _ => ⟨m + 8, 0, rfl, b9.lt, fun i hi j hj => ?_⟩⟩, fun i hi => ?_⟩
    · rw [b9.cell]
      simp only [loopP, List.length_cons, List.length_nil] at hi
      rcases (show i = 0 ∨ i = 1 ∨ i = 2 ∨ i = 3 by omega) with rfl | rfl | rfl | rfl <;> rcases (show j = 0 ∨ j = 1 ∨ j = 2 ∨ j = 3 ∨ j = 4 ∨ j = 5 by omega) with rfl | rfl | rfl | rfl | rfl | rfl <;> rfl
    · simp only [loopP, List.length_cons, List.length_nil] at hi
      rcases (show i = 0 ∨ i = 1 ∨ i = 2 ∨ i = 3 by omega) with rfl | rfl | rfl | rfl
      · exact ⟨b2.ints1 i1, b3.ints1 i2, nil_ints w, i0⟩
      · exact ⟨b4.ints1 i2, b5.ints1 i1, nil_ints w, i0⟩
      · exact ⟨b6.ints1 i1, b7.ints1 i3, nil_ints w, i0⟩
      · exact ⟨b8.ints1 i3, nil_ints w, nil_ints w, i0⟩

/-- A program of one disjunction. -/
def disP : GP := ⟨2, [⟨#[97]⟩, ⟨#[98]⟩], [], [⟨false, [1, 2], false, 0, [], []⟩], []⟩

theorem dis_prog {n1 n2 n3 : Nat} {w : World} (b1 : Blk w n1 [.string ⟨#[97]⟩, .string ⟨#[98]⟩] 9) (b2 : Blk w n2 [.int .i64 1, .int .i64 2] 3)
    (b3 : Blk w n3 [.bool false, .slice (some ⟨n2, 0, none⟩) 2 2, .bool false, .int .i64 0, .slice none 0 0, .slice none 0 0] 54) :
    ProgIs w (.agg #[.int .i64 2, .slice (some ⟨n1, 0, none⟩) 2 2, .slice none 0 0, .slice (some ⟨n3, 0, none⟩) 1 1, .slice none 0 0]) disP := by
  have i0 : InI 0 := by unfold InI; omega
  have i2 : InI 2 := by unfold InI; omega
  refine ⟨_, _, _, _, rfl, i2, ⟨⟨_, 2, rfl, Nat.le_refl _, by unfold maxLen; omega, by simp [disP], fun _ => ⟨n1, 0, rfl, b1.lt, fun i hi => ?_⟩⟩, fun i => ?_⟩, nil_ints w, ?_, ⟨fun _ => nilS, fun _ => nilS, ⟨none, 0, rfl, Nat.le_refl _, by unfold maxLen; omega, by simp [disP], fun h => absurd h (by simp [disP])⟩, fun i hi => absurd hi (by simp [disP])⟩⟩
  · rw [b1.cell]
    simp only [disP, List.length_cons, List.length_nil] at hi
    rcases (show i = 0 ∨ i = 1 by omega) with rfl | rfl <;> rfl
  · have hs : ∀ l : List ByteArray, (∀ x ∈ l, x.size ≤ 1) → (ixS l i).size ≤ 140737488351232 := fun l hl => by
      unfold ixS
      rw [List.getD_eq_getElem?_getD]
      cases h : l[i]? with
      | none => decide
      | some x =>
        have := hl x (List.mem_of_getElem? h)
        simp only [Option.getD_some]
        omega
    refine hs _ (fun x hx => ?_)
    simp only [disP, List.mem_cons, List.not_mem_nil, or_false] at hx
    rcases hx with rfl | rfl <;> decide
  · refine ⟨fun _ => .slice (some ⟨n2, 0, none⟩) 2 2, fun _ => .slice none 0 0, fun _ => .slice none 0 0, ⟨_, 1, rfl, Nat.le_refl _, by unfold maxLen; omega, by simp [disP], fun _ => ⟨n3, 0, rfl, b3.lt, fun i hi j hj => ?_⟩⟩, fun i hi => ?_⟩
    · rw [b3.cell]
      simp only [disP, List.length_cons, List.length_nil] at hi
      obtain rfl : i = 0 := by omega
      rcases (show j = 0 ∨ j = 1 ∨ j = 2 ∨ j = 3 ∨ j = 4 ∨ j = 5 by omega) with rfl | rfl | rfl | rfl | rfl | rfl <;> rfl
    · simp only [disP, List.length_cons, List.length_nil] at hi
      obtain rfl : i = 0 := by omega
      exact ⟨Blk.ints (l := [1, 2]) b2 (fitI (by simp [InI])) (by simp), nil_ints w, nil_ints w, i0⟩

end Go.Proofs.YtfhpfbakoiekpaaGreatDoor
