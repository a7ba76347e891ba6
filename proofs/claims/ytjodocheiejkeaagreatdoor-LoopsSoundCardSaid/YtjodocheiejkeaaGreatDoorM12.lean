/- My texts Mk0, Rea1, Lp8R, AppIn, Mk1, Perm5, PermK, CpW, Aw2, Open, Subs, Lw26, merged. -/
import Derived.Test.YtjodocheiejkeaaGreatDoorM07
import Derived.Test.YtjodocheiejkeaaGreatDoorM06
import Derived.Test.YtjodocheiejkeaaGreatDoorM04
import Derived.Test.YtjodocheiejkeaaGreatDoorM03
import Derived.Test.YtjodocheiejkeaaGreatDoorM00
import Derived.Test.YtjodocheiejkeaaGreatDoorProg
import Derived.WalkKit
import Derived.Lib.Hide
import Derived.Deep.QuietTactic
import Derived.BigQuiet
import Derived.Lib.Bytealg
import Derived.MapKept
import Derived.Maps.OwnSet
import Derived.Maps.OwnOps
import Derived.Test.YtjodocheiejkeaaGreatDoorM02
import Derived.WalkSpells
import Derived.Lib.SliceRun
import Derived.Test.YtjodocheiejkeaaGreatDoorM01
import Derived.Deep.AppendLies
import Derived.Deep.DeepCutAuto
import Derived.RangeFuncNested
import Derived.RangeFuncBound
import Derived.RangeFuncCalls
import Derived.RangeFuncLeaves
import Derived.OwnWalkIn
import Derived.TacticsInMore
import Derived.LoopNIn
import Derived.LoopIn
import Derived.Stop.RegionWithIn
import Derived.Shelf.Abstract
import Derived.Test.YtjodocheiejkeaaGreatDoorM11
import Derived.Laws.EntriesVeiled
import Derived.Deep.AppendSrc
import Derived.Maps.OwnIn
import Derived.Test.YtjodocheiejkeaaGreatDoorM10
import Derived.Test.YtjodocheiejkeaaGreatDoorM09
import Derived.Test.YtjodocheiejkeaaGreatDoorM08
import Derived.Maps.RangeWalk
import Derived.Lib.SlicesCompact
import Derived.Shelf.Sort.Plain
import Derived.Shelf.Slices.CompactI
import Derived.Shelf.Slices.In.SortNone
import Derived.Shelf.Strconv.Itoa3
import Derived.Shelf.Strings.BuilderK
import Derived.Sort.OwnSortedInts
import Derived.Sort.QuietThIn
import Derived.RangeFuncBox
import Derived.Lib.RowBridge
import Derived.Deep.OwnRows
import Derived.Test.YtjodocheiejkeaaGreatDoorM05
import Derived.Deep.DeepMust
import Derived.Deep.RegionWith
import Derived.ProofKit
import Derived.OpenShut
import Derived.ChangeArms
import Derived.SizedLaws

namespace Go.Proofs.YtjodocheiejkeaaGreatDoor
def reas2 (u : SU) (a : List Int) : List Int :=
  match (oth u).find? (fun h => offB a (-h)) with
  | some h => [-h]
  | none => u.r.body.filter (fun l => !(intB u.S l || !offB a l))
def reas1 (u : SU) (a : List Int) : List Int :=
  if u.r.sum then reas2 u a
  else match u.r.body.find? (fun l => offB a l) with
    | some l => [l]
    | none => reas2 u a
def reasP (u : SU) (a : List Int) : List Int :=
  if impB u then [] else if offB a u.b then [u.b] else reas1 u a
def reasAll (a : List Int) (l : List SU) : List Int := l.flatMap (fun u => reasP u a)
theorem reasAll_snoc (a : List Int) (l : List SU) (u : SU) : reasAll a (l ++ [u]) = reasAll a l ++ reasP u a := by simp [reasAll]
end Go.Proofs.YtjodocheiejkeaaGreatDoor
namespace Go.Proofs.YtjodocheiejkeaaGreatDoor
open Go.RowKit
structure EnvR (w : World) (sb ab fb : Nat) (u : SU) (a : List Int) : Prop where
  sup : SupB w sb u
  asg : InU w ab a
  fn : Blk w fb [.func (.func 121) #[] #[.pointer (some ⟨ab, 0, none⟩)]] 77
theorem EnvR.below {w w' : World} {sb ab fb : Nat} {u : SU} {a : List Int} (h : EnvR w sb ab fb u a) (hb : Below w.heap.size w w') : EnvR w' sb ab fb u a := ⟨h.sup.below hb, h.asg.below hb, h.fn.below hb⟩
section
variable {w : World} {sb fb ab : Nat} {u : SU} {a : List Int}
end
attribute [local go_sem] Oper.semAt_some
def SUok2 (u : SU) : Prop := SUok u ∧ u.r.body.length ≤ 8002
abbrev SupW (w : World) := { x : Value × SU // SupIs w x.1 x.2 ∧ SUok2 x.2 }
def suw {w : World} (l : List (SupW w)) : List SU := l.map (·.1.2)
theorem SupW.form {w : World} (x : SupW w) : ∃ vh vb vw vs, x.1.1 = .agg #[.bool x.1.2.r.choice, vh, .bool x.1.2.r.sum, .int .i64 x.1.2.r.bound, vb, vw, .int .i64 x.1.2.b, vs] ∧ (∃ a n c, vh = .slice a n c) ∧ (∃ a n c, vb = .slice a n c) ∧ (∃ a n c, vw = .slice a n c) ∧ ∃ a n c, vs = .slice a n c := by
  obtain ⟨vh, vb, vw, vs, e, h1, h2, h3⟩ := x.2.1
  obtain ⟨⟨_, _, e1, -⟩, -⟩ := h1.head
  obtain ⟨⟨_, _, e2, -⟩, -⟩ := h1.body
  obtain ⟨⟨_, _, e3, -⟩, -⟩ := h1.wts
  obtain ⟨⟨_, _, e4, -⟩, -⟩ := h2
  exact ⟨_, _, _, _, e, ⟨_, _, _, e1⟩, ⟨_, _, _, e2⟩, ⟨_, _, _, e3⟩, ⟨_, _, _, e4⟩⟩
end Go.Proofs.YtjodocheiejkeaaGreatDoor
namespace Go.Proofs.YtjodocheiejkeaaGreatDoor
open Go.RowKit
theorem wpListIn_appendQs {F : Fence} {n : Nat} {ops : Array Oper} {rest : List Oper} {o : Oper} {a : Act} {w : World} {Q : Exit → Act → World → Prop} (hgd : o.guard = none) (s x : Operand)
    (ho : o.op = .call { callee := .builtin .append, args := #[s, x], argTypes := #[23, 23] }) (base : Nat) (v y : Value) (l m : List Int) (hs : a.eval s = v) (hx : a.eval x = y) (h : QRow base w v l) (hy : Ints w y m)
    (hlen : (l.length + m.length) * 8 ≤ 140737488351232) (hbase : base ≤ w.heap.size)
    (hK : ∀ v' w', QRow base w' v' (l ++ m) → w.grownBy w' v.ownBlock → (v'.ownBlock = v.ownBlock ∨ v'.ownBlock = some w.heap.size) → wpListIn F n Tryz.prog ops Q rest (a.put o.dst v') w') : wpListIn F n Tryz.prog ops Q (o :: rest) a w := by
  refine wpListIn_plain hgd fun K hK' => ?_
  obtain ⟨v', w', hr, h2, h3, h4⟩ := run_appendQs base 23 o.type Tryz.underlying23 rfl w v l h y m hy hlen hbase
  unfold Oper.wpIn
  refine ⟨by simp [Oper.about, ho, resolve, Target.leads, Sem.run_pure], ?_⟩
  rw [Oper.semAt_plain F _ _ (by rw [ho]; intro c hc'; cases hc')]
  simp [execOp, ho, resolve, invoke, builtin, hs, hx, hr, Result.andThen]
  exact hK' _ _ (hK v' w' h2 h3 h4)
theorem QRow.ownR {B : Nat} {w w' : World} {v : Value} {l : List Int} {row : Option Nat} (h : QRow B w v l) (hg : w.grownBy w' row) (hr : ∀ r, row = some r → ∃ o : Obj, w.heap[r]? = some o ∧ o.isCells = false) : QRow B w' v l := by
  rcases h.2 with ⟨rfl, e⟩ | ⟨g, off, cap, cur, rfl, hb, hgg, h1, h2, h3, h4⟩
  · exact ⟨h.1, .inl ⟨rfl, e⟩⟩
  · refine h.kept fun i _ hi e => hg.block i hi fun e2 => ?_
    simp only [Value.ownBlock, Option.some.injEq] at e
    subst e
    obtain ⟨o, ho, hc⟩ := hr _ e2.symm
    rw [hgg] at ho
    cases ho
    cases hc
theorem reasP_len (u : SU) (a : List Int) : (reasP u a).length ≤ u.r.body.length + 1 := by
  unfold reasP
  split
  · simp
  · split
    · simp
    · have h2 : (reas2 u a).length ≤ u.r.body.length + 1 := by
        unfold reas2
        split
        · simp
        · have := List.length_filter_le (fun l => !(intB u.S l || !offB a l)) u.r.body
          omega
      unfold reas1
      split
      · exact h2
      · split
        · simp
        · exact h2
def MkI (a : List Int) (x0 : Int) (w1 : World) (n6 : Nat) (sl : List SU) (W : World) : Prop :=
  ∃ v, Blk W (w1.heap.size + 1) [v] 23 ∧ QRow w1.heap.size W v ([x0] ++ reasAll a sl) ∧ Below w1.heap.size w1 W ∧ ([x0] ++ reasAll a sl).length ≤ 1 + 8003 * sl.length ∧ (∀ g, v.ownBlock = some g → g = w1.heap.size ∨ n6 ≤ g) ∧ n6 ≤ W.heap.size
theorem MkI.ownR {B n6 : Nat} {a : List Int} {x0 : Int} {w1 : World} (hB : w1.heap.size ≤ B) {wi : World} : OwnFrom B (fun (pre : List (SupW wi)) W => MkI a x0 w1 n6 (suw pre) W) := fun pre X Y row hs hg hrow => by
  have hr : ∀ r, row = some r → ∃ o : Obj, X.heap[r]? = some o ∧ o.isCells = false := fun r e => (hrow r e).2
  obtain ⟨v, h1, h2, h3, h4, h5, h6⟩ := hs
  exact ⟨v, blk_own _ _ _ () X Y row h1 hg hr, h2.ownR hg hr, h3.grown hg h3.size (fun k e => by have := (hrow k e).1; omega), h4, h5, Nat.le_trans h6 hg.size⟩
theorem MkI.on {n6 : Nat} {a : List Int} {x0 : Int} {w1 W W' : World} {sl : List SU} (h : MkI a x0 w1 n6 sl W) (hb : Below W.heap.size W W') : MkI a x0 w1 n6 sl W' :=
  let ⟨v, h1, h2, h3, h4, h5, h6⟩ := h; ⟨v, h1.below hb, h2.below hb, h3.trans (hb.mono h3.size), h4, h5, Nat.le_trans h6 hb.size⟩
theorem MkI.start {a : List Int} {x0 : Int} {w1 W6 : World} (hx : InI x0) (hb6 : Below (w1.heap.size + 1 + 1) ((w1.alloc (.cells #[.int .i64 x0] 3)).alloc (.cells #[.slice (some ⟨w1.heap.size, 0, none⟩) 1 1] 23)) W6) : MkI a x0 w1 W6.heap.size [] W6 := by
  have hb := (Blk.new w1 [.int .i64 x0] 3).alloc (.cells #[.slice (some ⟨w1.heap.size, 0, none⟩) 1 1] 23)
  have hz : ((w1.alloc (.cells #[.int .i64 x0] 3)).alloc (.cells #[.slice (some ⟨w1.heap.size, 0, none⟩) 1 1] 23)).heap.size = w1.heap.size + 1 + 1 := by simp
  rw [← hz] at hb6
  refine ⟨_, (Blk.new2 w1 _ [_] _).below hb6, QRow.below ⟨fitI fun x h => by obtain rfl := List.mem_singleton.1 (by simpa [reasAll] using h); exact hx, .inr ⟨w1.heap.size, 0, 1, _, by simp [reasAll], Nat.le_refl _, hb, by simp [reasAll], by unfold maxLen; omega, by simp, fun i hi => ?_⟩⟩ hb6, (bal (bal (Below.refl _ _) _) _).trans (hb6.mono (by omega)), by simp [reasAll], fun g e => .inl ?_, Nat.le_refl _⟩
  · simp [reasAll] at hi
    subst hi
    rfl
  · simpa [Value.ownBlock] using e.symm
theorem keeps_row {B base : Nat} {W W' : World} {v : Value} {l : List Int} (hq : QRow base W v l) (hg : W.grownBy W' v.ownBlock) : KeepsFrom B W W' :=
  ⟨hg.size, fun k o _ hk hc => (hg.block k (Array.getElem?_eq_some_iff.1 hk).1 (fun e => by
    rcases hq.2 with ⟨rfl, _⟩ | ⟨g, off, cap, cur, rfl, _, hgg, _⟩
    · cases e
    · obtain rfl : k = g := Option.some.inj e
      rw [hgg] at hk
      cases hk
      cases hc)).trans hk⟩
theorem MkI.push {a : List Int} {x0 : Int} {w1 W2 W3 : World} {n6 : Nat} {sl : List SU} {u : SU} {v v' : Value} (hb : Blk W2 (w1.heap.size + 1) [v] 23) (hq : QRow w1.heap.size W2 v ([x0] ++ reasAll a sl)) (hB : Below w1.heap.size w1 W2) (hlen : ([x0] ++ reasAll a sl).length ≤ 1 + 8003 * sl.length) (hown : ∀ g, v.ownBlock = some g → g = w1.heap.size ∨ n6 ≤ g) (hn : n6 ≤ W2.heap.size)
    (hu : u.r.body.length ≤ 8002) (hq3 : QRow w1.heap.size W3 v' (([x0] ++ reasAll a sl) ++ reasP u a)) (hg : W2.grownBy W3 v.ownBlock) (ho : v'.ownBlock = v.ownBlock ∨ v'.ownBlock = some W2.heap.size) :
    Blk W3 (w1.heap.size + 1) [v] 23 ∧ MkI a x0 w1 n6 (sl ++ [u]) (W3.setCell ⟨w1.heap.size + 1, 0, none⟩ v') ∧ Lim n6 [w1.heap.size, w1.heap.size + 1] W2 (W3.setCell ⟨w1.heap.size + 1, 0, none⟩ v') ∧ KeepsFrom n6 W2 (W3.setCell ⟨w1.heap.size + 1, 0, none⟩ v') := by
  have hb3 : Blk W3 (w1.heap.size + 1) [v] 23 := hb.same (hg.block _ hb.lt (fun e => (hq.far hb (by decide)) e.symm))
  refine ⟨hb3, ⟨v', by simpa using hb3.set 0 v', ?_, (hB.grown hg hB.size (fun k e => (hq.base e).1)).setCell (p := ⟨w1.heap.size + 1, 0, none⟩) (by show w1.heap.size ≤ w1.heap.size + 1; omega) _, ?_, fun g e => ?_, by rw [size_set]; exact Nat.le_trans hn hg.size⟩, ?_, (keeps_row hq hg).trans ((KeepsOthers.setCell _ _ _).from _)⟩
  · rw [reasAll_snoc, ← List.append_assoc]
    have hne : v'.ownBlock ≠ some (w1.heap.size + 1) := hq3.far hb3 (by decide)
    exact hq3.kept fun i _ _ e => Below.heap_setCell _ _ _ _ (fun e2 => hne (by rw [e, e2]))
  · rw [reasAll_snoc]
    have := reasP_len u a
    simp only [List.length_append, List.length_cons, List.length_nil] at *
    omega
  · rcases ho with h | h
    · exact hown g (h ▸ e)
    · rw [h] at e
      have := Option.some.inj e
      exact .inr (by omega)
  · refine Lim.trans ⟨hg.os, hg.tape, hg.output, hg.size, fun k hk hs => hg.block k (by omega) (fun e => ?_)⟩ (Lim.setCell _ (.inl (by simp)))
    simp only [List.mem_cons, List.not_mem_nil, or_false, not_or] at hs
    have := hown k e.symm
    omega
def Enters (P : Program) (o : Oper) (a : Act) (w : World) : Prop := ∃ f args w', (execOp a.eval o).run P w = .ok (.enter f args) w'
section
variable {P : Program} {l : List Oper} {w0 : World} {Φ : Nat → List Value → Value → Nat → Nat → World → Prop} {ism : Nat → Bool} {D : Nat → Nat → Bool} {Q : Exit → Act → World → Prop} {E : Act → World → Prop} {Cl : Nat → World → Prop} {n : Nat} {a0 : Act}
end
section
variable {P : Program} {l : List Oper} {s : List Nat} {Q : Exit → Act → World → Prop}
end
section
variable {P : Program} {l : List Oper} {D : Nat → Nat → Bool} {Q : Exit → Act → World → Prop} {a0 : Act}
def StepK (P : Program) (l : List Oper) (a0 : Act) (W : (Nat → Value) → (Nat → Bool) → World → Prop) (i : Nat) (vals : Nat → Value) (L : Nat → Bool) (w : World) : Prop :=
  StepJ P l a0 W i vals L w ∧ (tame (opAt l i) = true ∨ Enters P (opAt l i) (Afr l a0 vals i) w)
theorem StepK.of {W : (Nat → Value) → (Nat → Bool) → World → Prop} {i : Nat} {vals : Nat → Value} {L : Nat → Bool} {w : World} (hw : Region.wanted (opAt l i) (yielded l.toArray (Afr l a0 vals i).tmps) = true) (ht : tame (opAt l i) = true)
    (h : ∀ K : Act → World → Prop, (∀ v w', W (updN vals i v) (updN L i true) w' → K ((Afr l a0 vals i).put (opAt l i).dst v) w') → (opAt l i).wp P (Afr l a0 vals i) w K (fun _ _ _ => False)) : StepK P l a0 W i vals L w := ⟨.of hw h, .inl ht⟩
theorem StepK.call {W : (Nat → Value) → (Nat → Bool) → World → Prop} {i : Nat} {vals : Nat → Value} {L : Nat → Bool} {w : World} (hw : Region.wanted (opAt l i) (yielded l.toArray (Afr l a0 vals i).tmps) = true) (ht : Enters P (opAt l i) (Afr l a0 vals i) w)
    (h : ∀ K : Act → World → Prop, (∀ v w', W (updN vals i v) (updN L i true) w' → K ((Afr l a0 vals i).put (opAt l i).dst v) w') → (opAt l i).wp P (Afr l a0 vals i) w K (fun _ _ _ => False)) : StepK P l a0 W i vals L w := ⟨.of hw h, .inr ht⟩
end
structure CpSt (w : World) (p : GP) (vn vs vr vm : Value) (ob : Nat) (lst : List PBC) (F : Int → List Int) (W : World) : Prop where
  box : Blk W w.heap.size [.int .i64 p.n, vn, vs, vr, vm] 27
  sup : ∃ G, SupM w.heap.size (ob + 1) F G W ∧ OutC w.heap.size ob (supB G) lst W
  below : Below w.heap.size w W
structure CpR (w : World) (p : GP) (vn vs vr vm : Value) (ob rb : Nat) (r : GR) (x1 x4 x5 : Option Addr) (y1 y4 y5 : Nat) (lst : List PBC) (F : Int → List Int) (W : World) : Prop where
  st : CpSt w p vn vs vr vm ob lst F W
  rule : Blk W rb [.bool r.choice, .slice x1 r.head.length y1, .bool r.sum, .int .i64 r.bound, .slice x4 r.body.length y4, .slice x5 r.w.length y5] 55
section
variable {w W W' : World} {p : GP} {vn vs vr vm : Value} {ob rb : Nat} {r : GR} {x1 x4 x5 : Option Addr} {y1 y4 y5 : Nat} {lst lst' : List PBC} {F : Int → List Int}
theorem CpSt.on (h : CpSt w p vn vs vr vm ob lst F W) (hb : Below W.heap.size W W') : CpSt w p vn vs vr vm ob lst F W' :=
  ⟨h.box.below hb, let ⟨G, hG, hO⟩ := h.sup; ⟨G, hG.below hb, hO.below hb⟩, bon h.below hb⟩
theorem CpSt.put {G : Int → Option Value} (h : CpSt w p vn vs vr vm ob lst F W) (hG : SupM w.heap.size (ob + 1) F G W) (ho : OutC w.heap.size ob (supB G) lst' W') (hc : CLim w.heap.size W W') : CpSt w p vn vs vr vm ob lst' F W' :=
  ⟨hc.blk h.box (by decide) (by decide), ⟨G, hG.clim hc, ho⟩, h.below.trans (hc.below h.below.size)⟩
theorem CpR.on (h : CpR w p vn vs vr vm ob rb r x1 x4 x5 y1 y4 y5 lst F W) (hb : Below W.heap.size W W') : CpR w p vn vs vr vm ob rb r x1 x4 x5 y1 y4 y5 lst F W' := ⟨h.st.on hb, h.rule.below hb⟩
theorem CpR.put {G : Int → Option Value} (h : CpR w p vn vs vr vm ob rb r x1 x4 x5 y1 y4 y5 lst F W) (hG : SupM w.heap.size (ob + 1) F G W) (ho : OutC w.heap.size ob (supB G) lst' W') (hc : CLim w.heap.size W W') : CpR w p vn vs vr vm ob rb r x1 x4 x5 y1 y4 y5 lst' F W' :=
  ⟨h.st.put hG ho hc, hc.blk h.rule (by decide) (by decide)⟩
theorem CpR.push {G : Int → Option Value} {x b : Int} {v3 : Value} {o : Obj} {w3 w7 : World} (h : CpR w p vn vs vr vm ob rb r x1 x4 x5 y1 y4 y5 lst F W) (hob : w.heap.size ≤ ob) (hG : SupM w.heap.size (ob + 1) F G W) (hO : OutC w.heap.size ob (supB G) lst W)
    (hq : QRow w.heap.size w3 v3 (F x ++ [b])) (hg : (W.alloc o).grownBy w3 (rowV G x).ownBlock) (ho : v3.ownBlock = (rowV G x).ownBlock ∨ v3.ownBlock = some (W.alloc o).heap.size)
    (hm : MapIs (Value.int .i64) w7 (ob + 1) (upd G x (some v3))) (hg2 : w3.grownBy w7 (some (ob + 1))) : CpR w p vn vs vr vm ob rb r x1 x4 x5 y1 y4 y5 lst (setL' F x (F x ++ [b])) w7 := by
  have hal := bal (Below.refl W.heap.size W) o
  have hGA := hG.below hal
  have hb1 : Below w.heap.size W w3 := (hal.mono h.st.below.size).trans (below_row hg (by have := h.st.below.size; have := hal.size; omega) fun g e => ((hG.row x).base e).1)
  have hb2 : Below w.heap.size w3 w7 := ⟨hg2.os, hg2.tape, hg2.output, hg2.size, fun i hi => hg2.block i (by have := h.st.below.size; have := hb1.size; omega) (fun e => by
    have e2 : i = ob + 1 := by simpa using e
    omega)⟩
  exact ⟨⟨hGA.blk1 hg hg2 (h.st.box.below hal) (by decide), ⟨_, hGA.push hq hg ho hm hg2 (hGA.map1 hg), hGA.out1 hg hg2 ho (hO.below hal)⟩, (h.st.below.trans hb1).trans hb2⟩, hGA.blk1 hg hg2 (h.rule.below hal) (by decide)⟩
end
structure BoxP (b : Nat) (n : Int) (vn vr : Value) (p : GP) (W : World) : Prop where
  prog : ProgIs W (.agg #[.int .i64 n, vn, .slice none 0 0, vr, .slice none 0 0]) p
  box : Blk W b [.int .i64 n, vn, .slice none 0 0, vr, .slice none 0 0] 27
theorem BoxP.on {b : Nat} {n : Int} {vn vr : Value} {p : GP} {W W' : World} (h : BoxP b n vn vr p W) (hb : Below W.heap.size W W') : BoxP b n vn vr p W' := ⟨h.prog.below hb, h.box.below hb⟩
structure Sum3 (a : Option Addr) (b o : Nat) (v0 u0 v1 u1 v2 u2 : Value) (W : World) : Prop where
  lt : b < W.heap.size
  at0 : PBCells W b o ct1 v0 u0
  at1 : PBCells W b (o + 3) ct2 v1 u1
  at2 : PBCells W b (o + 6) ct3 v2 u2
  is0 : PBIs W (.agg #[v0, u0, .int .i64 2]) ct1
  is1 : PBIs W (.agg #[v1, u1, .int .i64 2]) ct2
  is2 : PBIs W (.agg #[v2, u2, .int .i64 1]) ct3
theorem Sum3.on {a : Option Addr} {b o : Nat} {v0 u0 v1 u1 v2 u2 : Value} {W W' : World} (h : Sum3 a b o v0 u0 v1 u1 v2 u2 W) (hb : Below W.heap.size W W') : Sum3 a b o v0 u0 v1 u1 v2 u2 W' :=
  ⟨Nat.lt_of_lt_of_le h.lt hb.size, h.at0.below hb h.lt, h.at1.below hb h.lt, h.at2.below hb h.lt, h.is0.below hb, h.is1.below hb, h.is2.below hb⟩
structure A4 (w : World) (bp : Nat) (an : Option Addr) (nn cn : Nat) (ar : Option Addr) (nr cr : Nat) (ao : Option Addr) (co bs os : Nat) (v0 u0 v1 u1 v2 u2 : Value) (W : World) : Prop where
  p : BoxP bp 2 (.slice an nn cn) (.slice ar nr cr) twoP W
  l : PBsIs W (.slice ao 8 co) (compL twoP)
  s : Sum3 (some ⟨bs, os, none⟩) bs os v0 u0 v1 u1 v2 u2 W
  b : Below w.heap.size w W
theorem A4.on {w : World} {bp : Nat} {an : Option Addr} {nn cn : Nat} {ar : Option Addr} {nr cr : Nat} {ao : Option Addr} {co bs os : Nat} {v0 u0 v1 u1 v2 u2 : Value} {W W' : World} (h : A4 w bp an nn cn ar nr cr ao co bs os v0 u0 v1 u1 v2 u2 W) (hb : Below W.heap.size W W') : A4 w bp an nn cn ar nr cr ao co bs os v0 u0 v1 u1 v2 u2 W' :=
  ⟨h.p.on hb, h.l.below hb, h.s.on hb, bon h.b hb⟩
theorem A4.alloc {w : World} {bp : Nat} {an : Option Addr} {nn cn : Nat} {ar : Option Addr} {nr cr : Nat} {ao : Option Addr} {co bs os : Nat} {v0 u0 v1 u1 v2 u2 : Value} {W : World} (h : A4 w bp an nn cn ar nr cr ao co bs os v0 u0 v1 u1 v2 u2 W) (o : Obj) : A4 w bp an nn cn ar nr cr ao co bs os v0 u0 v1 u1 v2 u2 (W.alloc o) :=
  h.on (bal (Below.refl _ _) _)
theorem list_of {α : Type} (d : α) {Q : Nat → α → Prop} : ∀ (n : Nat), (∀ i, i < n → ∃ x, Q i x) → ∃ l : List α, l.length = n ∧ ∀ i, i < n → Q i (l.getD i d)
  | 0, _ => ⟨[], rfl, fun i hi => absurd hi (Nat.not_lt_zero _)⟩
  | n + 1, h => by
    obtain ⟨l, hl, hq⟩ := list_of d n (fun i hi => h i (by omega))
    obtain ⟨x, hx⟩ := h n (by omega)
    refine ⟨l ++ [x], by simp [hl], fun i hi => ?_⟩
    by_cases e : i < n
    · have := hq i e
      rw [List.getD_eq_getElem?_getD, List.getElem?_append_left (by omega), ← List.getD_eq_getElem?_getD]
      exact this
    · obtain rfl : i = n := by omega
      rw [List.getD_eq_getElem?_getD, List.getElem?_append_right (by omega)]
      simp [hl, hx]
section
variable {H : Type} {enc : TypeId × Value → H} {P : Program} {w : World}
def Reads (enc : TypeId × Value → H) (P : Program) (w : World) (t : TypeId) (cs : List Value) : Prop :=
  ∃ fuel y, DataW.trod enc P w 0 (fun _ => true) true fuel t cs = some y ∧ ∀ m ∈ y.1.weights P t, m ≤ reachBytes
theorem cells_at {a : Addr} {n : Nat} {cs : List Value} (h : w.cells? 0 a n = some cs) : cs.length = n ∧ ∀ j, j < n → w.cell? (a.add j) = cs[j]? := by
  unfold World.cells? at h
  rw [if_pos (Nat.zero_le _)] at h
  refine ⟨by simpa using mapM_some_length h, fun j hj => ?_⟩
  exact mapM_some_get h j j (by simp [hj])
theorem weightsAll_mem {e : TypeId} : ∀ {l : List (DataW H)} {i : Nat} {d : DataW H}, l[i]? = some d → ∀ m ∈ d.weights P e, m ∈ DataW.weightsAll P e l
  | [], i, d, h, m, hm => by simp at h
  | x :: l, 0, d, h, m, hm => by
    simp only [List.getElem?_cons_zero, Option.some.injEq] at h
    subst h
    unfold DataW.weightsAll
    exact List.mem_append.2 (.inl hm)
  | x :: l, i + 1, d, h, m, hm => by
    simp only [List.getElem?_cons_succ] at h
    unfold DataW.weightsAll
    exact List.mem_append.2 (.inr (weightsAll_mem h m hm))
theorem open_slc {t e : TypeId} {sz byt : Nat} {cs : List Value} (ht : P.underlying t = some (.slice e)) (hc : P.cellsOf e = sz) (hs : 1 ≤ sz) (hb : P.bytesOf e = byt) (h : Reads enc P w t cs) :
    ∃ a n cap, cs = [.slice a n cap] ∧ n ≤ cap ∧ cap ≤ maxLen ∧ n * byt ≤ 140737488351232 ∧
      (0 < n → ∃ b off, a = some ⟨b, off, none⟩ ∧ b < w.heap.size ∧ ∀ i, i < n → ∃ cs', cs'.length = sz ∧ (∀ j, j < sz → w.cell? ⟨b, off + i * sz + j, none⟩ = cs'[j]?) ∧ Reads enc P w e cs') := by
  obtain ⟨fuel, y, hy, hw⟩ := h
  rcases DataW.trod_slice ht hy with ⟨rfl, rfl⟩ | ⟨a, len, cap, elems, rest, n, rfl, rfl, rfl, -, hl, hm, hlen, hel, -, -⟩
  · exact ⟨none, 0, 0, rfl, Nat.le_refl _, by unfold maxLen; omega, by omega, fun h => absurd h (Nat.lt_irrefl _)⟩
  · have hws : ∀ m, m ∈ DataW.weights P t (.slice (elems.map (·.1)) (rest.map (·.1))) ↔ m = ((elems.map (·.1)).length + (rest.map (·.1)).length) * P.bytesOf e ∨ m ∈ DataW.weightsAll P e (elems.map (·.1)) ∨ m ∈ DataW.weightsAll P e (rest.map (·.1)) := by
      intro m; simp only [DataW.weights, ht, List.mem_cons, List.mem_append]
    have hbig := hw _ ((hws _).2 (.inl rfl))
    simp only [List.length_map, hlen, hb] at hbig
    have hreach : reachBytes = 140737488351232 := by decide
    refine ⟨some a, len, cap, rfl, hl, hm, ?_, fun hp => ?_⟩
    · have : len * byt ≤ (len + rest.length) * byt := Nat.mul_le_mul_right _ (by omega)
      omega
    · obtain ⟨b, off, spot⟩ := a
      have each : ∀ i, i < len → ∃ cs' y, w.cells? 0 ((⟨b, off, spot⟩ : Addr).add (i * P.cellsOf e)) (P.cellsOf e) = some cs' ∧ DataW.trod enc P w 0 (fun _ => true) true n e cs' = some y ∧ elems[i]? = some y := fun i hi => by
        have h1 := hel i hi
        rw [List.getElem?_eq_getElem (by omega)] at h1
        obtain ⟨cs', h2, h3⟩ := Option.bind_eq_some_iff.1 h1
        exact ⟨cs', _, h2, h3, List.getElem?_eq_getElem (by omega)⟩
      have hspot : spot = none := by
        obtain ⟨cs', y, h1, -, -⟩ := each 0 hp
        rw [Nat.zero_mul, hc] at h1
        obtain ⟨h2, h3⟩ := cells_at h1
        have h4 := h3 0 (by omega)
        rw [List.getElem?_eq_getElem (by omega)] at h4
        simpa [Addr.add] using World.cell?_spot h4
      subst hspot
      have add : ∀ (x : Nat) (o : Nat), ((⟨b, x, none⟩ : Addr).add o) = ⟨b, x + o, none⟩ := fun x o => by unfold Addr.add; split <;> simp_all
      refine ⟨b, off, rfl, ?_, fun i hi => ?_⟩
      · obtain ⟨cs', y, h1, -, -⟩ := each 0 hp
        rw [Nat.zero_mul, hc] at h1
        obtain ⟨h2, h3⟩ := cells_at h1
        have h4 := h3 0 (by omega)
        rw [List.getElem?_eq_getElem (by omega)] at h4
        refine Classical.byContradiction fun hn => ?_
        have : w.heap[b]? = none := Array.getElem?_eq_none (by omega)
        simp [World.cell?, Addr.add, this] at h4
      · obtain ⟨cs', y, h1, h2, h3⟩ := each i hi
        rw [hc] at h1
        obtain ⟨h4, h5⟩ := cells_at h1
        refine ⟨cs', h4, fun j hj => ?_, n, y, h2, fun m hm => hw m ((hws m).2 (.inr (.inl ?_)))⟩
        · have := h5 j hj
          rw [add, add] at this
          exact this
        · exact weightsAll_mem (i := i) (by simp [h3]) m hm
theorem open_int1 {t : TypeId} {k : IntKind} {cs : List Value} (ht : P.underlying t = some (.int k)) (h : Reads enc P w t cs) : ∃ n, cs = [.int k n] ∧ (Lit.int k n).wf = true := by
  obtain ⟨fuel, y, hy, -⟩ := h
  obtain ⟨n, h1, -, h2⟩ := DataW.trod_int ht hy
  exact ⟨n, h1, h2⟩
theorem open_bool1 {t : TypeId} {cs : List Value} (ht : P.underlying t = some .bool) (h : Reads enc P w t cs) : ∃ b, cs = [.bool b] := by
  obtain ⟨fuel, y, hy, -⟩ := h
  obtain ⟨n, h1, -⟩ := DataW.trod_bool ht hy
  exact ⟨n, h1⟩
theorem open_str1 {t : TypeId} {cs : List Value} (ht : P.underlying t = some .string) (h : Reads enc P w t cs) : ∃ s, cs = [.string s] ∧ s.size ≤ 140737488351232 := by
  obtain ⟨fuel, y, hy, hw⟩ := h
  obtain ⟨s, h1, h2, -⟩ := DataW.trod_string ht hy
  subst h2
  refine ⟨s, h1, ?_⟩
  have := hw s.data.toList.length (by simp [DataW.weights])
  have hreach : reachBytes = 140737488351232 := by decide
  rw [hreach] at this
  simpa using this
theorem open_fld {t : TypeId} {fs : Array Field} {cs : List Value} (ht : P.underlying t = some (.struct fs)) (h : Reads enc P w t cs) {i : Nat} {f : Field} (hf : fs[i]? = some f) : cs.length = P.cellsOf t ∧ Reads enc P w f.type ((cs.drop f.offset).take (P.cellsOf f.type)) := by
  obtain ⟨fuel, y, hy, hw⟩ := h
  obtain ⟨xs, n, rfl, rfl, hl, hx, hel⟩ := DataW.trod_struct ht hy
  refine ⟨hl, n, ?_⟩
  have h1 := hel i f hf
  have hi : i < fs.size := (Array.getElem?_eq_some_iff.1 hf).1
  rw [List.getElem?_eq_getElem (by omega)] at h1
  refine ⟨_, h1, fun m hm => hw m ?_⟩
  simp only [DataW.weights, ht]
  exact DataW.weights_mem_each (j := i) (t := f.type) (d := (xs[i]'(by omega)).1) (by simp [hf]) (by simp [List.getElem?_eq_getElem (show i < xs.length by omega)]) m hm
end
theorem open_at {H : Type} {enc : TypeId × Value → H} {P : Program} {w : World} {t : TypeId} {fs : Array Field} {cs : List Value} (ht : P.underlying t = some (.struct fs)) (h : Reads enc P w t cs) (i ty off n : Nat)
    (hf : (fs[i]?).map (fun f => (f.type, f.offset)) = some (ty, off)) (hn : P.cellsOf ty = n) : Reads enc P w ty ((cs.drop off).take n) := by
  obtain ⟨f, h1, h2⟩ := Option.map_eq_some_iff.1 hf
  simp only [Prod.mk.injEq] at h2
  obtain ⟨rfl, rfl⟩ := h2
  subst hn
  exact (open_fld ht h h1).2
theorem open_len {H : Type} {enc : TypeId × Value → H} {P : Program} {w : World} {t : TypeId} {fs : Array Field} {cs : List Value} (ht : P.underlying t = some (.struct fs)) (h : Reads enc P w t cs) : cs.length = P.cellsOf t := by
  obtain ⟨fuel, y, hy, hw⟩ := h
  obtain ⟨xs, n, rfl, rfl, hl, hx, hel⟩ := DataW.trod_struct ht hy
  exact hl
section
variable {H : Type} {enc : TypeId × Value → H} {w : World}
theorem wf_i64 {n : Int} (h : (Lit.int .i64 n).wf = true) : -9223372036854775808 ≤ n ∧ n ≤ 9223372036854775807 := by
  have := bounds_i64 h; omega
theorem open_Ints {cs : List Value} (h : Reads enc Tryz.prog w 23 cs) : ∃ v l, cs = [v] ∧ Ints w v l := by
  obtain ⟨a, n, cap, rfl, h1, h2, h3, h4⟩ := open_slc (sz := 1) (byt := 8) Tryz.underlying23 (by kernel_rfl) (Nat.le_refl _) (by kernel_rfl) h
  by_cases hp : 0 < n
  · obtain ⟨b, off, rfl, hb, hel⟩ := h4 hp
    obtain ⟨l, hl, hq⟩ := list_of (0 : Int) (Q := fun i z => w.cell? ⟨b, off + i, none⟩ = some (.int .i64 z) ∧ InI z) n (fun i hi => by
      obtain ⟨cs', h5, h6, h7⟩ := hel i hi
      obtain ⟨z, rfl, hz⟩ := open_int1 Tryz.underlying3 h7
      have := h6 0 (by omega)
      simp only [Nat.mul_one, Nat.add_zero, List.getElem?_cons_zero] at this
      exact ⟨z, this, wf_i64 hz⟩)
    refine ⟨_, l, rfl, ⟨_, cap, by rw [hl], by omega, h2, by omega, fun _ => ⟨b, off, rfl, hb, fun i hi => (hq i (by omega)).1⟩⟩, fun i => ?_⟩
    by_cases hi : i < n
    · exact (hq i hi).2
    · have : ix l i = 0 := by unfold ix; rw [List.getD_eq_getElem?_getD, List.getElem?_eq_none (by omega)]; rfl
      rw [this]; omega
  · obtain rfl : n = 0 := by omega
    exact ⟨_, [], rfl, ⟨a, cap, rfl, h1, h2, by simp, fun h => absurd h (by simp)⟩, fun i => by simp [ix]⟩
theorem open_Strs {cs : List Value} (h : Reads enc Tryz.prog w 22 cs) : ∃ v l, cs = [v] ∧ Strs w v l := by
  obtain ⟨a, n, cap, rfl, h1, h2, h3, h4⟩ := open_slc (sz := 1) (byt := 16) Tryz.underlying22 (by kernel_rfl) (Nat.le_refl _) (by kernel_rfl) h
  have hempty : (ixS [] 0).size ≤ 140737488351232 := by decide
  by_cases hp : 0 < n
  · obtain ⟨b, off, rfl, hb, hel⟩ := h4 hp
    obtain ⟨l, hl, hq⟩ := list_of (⟨#[]⟩ : ByteArray) (Q := fun i z => w.cell? ⟨b, off + i, none⟩ = some (.string z) ∧ z.size ≤ 140737488351232) n (fun i hi => by
      obtain ⟨cs', h5, h6, h7⟩ := hel i hi
      obtain ⟨z, rfl, hz⟩ := open_str1 Tryz.underlying9 h7
      have := h6 0 (by omega)
      simp only [Nat.mul_one, Nat.add_zero, List.getElem?_cons_zero] at this
      exact ⟨z, this, hz⟩)
    refine ⟨_, l, rfl, ⟨_, cap, by rw [hl], by omega, h2, by omega, fun _ => ⟨b, off, rfl, hb, fun i hi => (hq i (by omega)).1⟩⟩, fun i => ?_⟩
    by_cases hi : i < n
    · exact (hq i hi).2
    · have : ixS l i = ⟨#[]⟩ := by unfold ixS; rw [List.getD_eq_getElem?_getD, List.getElem?_eq_none (by omega)]; rfl
      rw [this]; exact hempty
  · obtain rfl : n = 0 := by omega
    exact ⟨_, [], rfl, ⟨a, cap, rfl, h1, h2, by simp, fun h => absurd h (by simp)⟩, fun i => by simpa [ixS] using hempty⟩
theorem six {cs : List Value} (h : cs.length = 6) : ∃ a b c d e f, cs = [a, b, c, d, e, f] := by
  match cs, h with
  | [a, b, c, d, e, f], _ => exact ⟨a, b, c, d, e, f, rfl⟩
theorem five {cs : List Value} (h : cs.length = 5) : ∃ a b c d e, cs = [a, b, c, d, e] := by
  match cs, h with
  | [a, b, c, d, e], _ => exact ⟨a, b, c, d, e, rfl⟩
theorem three {cs : List Value} (h : cs.length = 3) : ∃ a b c, cs = [a, b, c] := by
  match cs, h with
  | [a, b, c], _ => exact ⟨a, b, c, rfl⟩
theorem cellsRule : Tryz.prog.cellsOf 55 = 6 := by kernel_rfl
theorem cellsMin : Tryz.prog.cellsOf 93 = 3 := by kernel_rfl
theorem cellsProg : Tryz.prog.cellsOf 27 = 5 := by kernel_rfl
theorem cellsI : Tryz.prog.cellsOf 3 = 1 := by kernel_rfl
theorem cellsB : Tryz.prog.cellsOf 4 = 1 := by kernel_rfl
theorem cellsIs : Tryz.prog.cellsOf 23 = 1 := by kernel_rfl
theorem cellsSs : Tryz.prog.cellsOf 22 = 1 := by kernel_rfl
theorem cellsRs : Tryz.prog.cellsOf 24 = 1 := by kernel_rfl
theorem cellsMs : Tryz.prog.cellsOf 25 = 1 := by kernel_rfl
theorem open_Rule {cs : List Value} (h : Reads enc Tryz.prog w 55 cs) : ∃ (r : GR) (vh vb vw : Value), cs = [.bool r.choice, vh, .bool r.sum, .int .i64 r.bound, vb, vw] ∧ RuleSl w r vh vb vw := by
  have hl := open_len Tryz.underlying55 h
  have f0 := open_at Tryz.underlying55 h 0 4 0 1 rfl cellsB
  have f1 := open_at Tryz.underlying55 h 1 23 1 1 rfl cellsIs
  have f2 := open_at Tryz.underlying55 h 2 4 2 1 rfl cellsB
  have f3 := open_at Tryz.underlying55 h 3 3 3 1 rfl cellsI
  have f4 := open_at Tryz.underlying55 h 4 23 4 1 rfl cellsIs
  have f5 := open_at Tryz.underlying55 h 5 23 5 1 rfl cellsIs
  rw [cellsRule] at hl
  obtain ⟨c0, c1, c2, c3, c4, c5, rfl⟩ := six hl
  simp only [List.drop_succ_cons, List.drop_zero, List.take_succ_cons, List.take_zero] at f0 f1 f2 f3 f4 f5
  obtain ⟨b0, h0⟩ := open_bool1 Tryz.underlying4 f0
  obtain ⟨v1, l1, h1, g1⟩ := open_Ints f1
  obtain ⟨b2, h2⟩ := open_bool1 Tryz.underlying4 f2
  obtain ⟨n3, h3, g3⟩ := open_int1 Tryz.underlying3 f3
  obtain ⟨v4, l4, h4, g4⟩ := open_Ints f4
  obtain ⟨v5, l5, h5, g5⟩ := open_Ints f5
  simp only [List.cons.injEq, and_true] at h0 h1 h2 h3 h4 h5
  subst h0 h1 h2 h3 h4 h5
  exact ⟨⟨b0, l1, b2, n3, l4, l5⟩, _, _, _, rfl, g1, g4, g5, wf_i64 g3⟩
theorem open_Min {cs : List Value} (h : Reads enc Tryz.prog w 93 cs) : ∃ (m : GM) (vl vw : Value), cs = [.int .i64 m.level, vl, vw] ∧ MinSl w m vl vw := by
  have hl := open_len Tryz.underlying93 h
  have f0 := open_at Tryz.underlying93 h 0 3 0 1 rfl cellsI
  have f1 := open_at Tryz.underlying93 h 1 23 1 1 rfl cellsIs
  have f2 := open_at Tryz.underlying93 h 2 23 2 1 rfl cellsIs
  rw [cellsMin] at hl
  obtain ⟨c0, c1, c2, rfl⟩ := three hl
  simp only [List.drop_succ_cons, List.drop_zero, List.take_succ_cons, List.take_zero] at f0 f1 f2
  obtain ⟨n0, h0, g0⟩ := open_int1 Tryz.underlying3 f0
  obtain ⟨v1, l1, h1, g1⟩ := open_Ints f1
  obtain ⟨v2, l2, h2, g2⟩ := open_Ints f2
  simp only [List.cons.injEq, and_true] at h0 h1 h2
  subst h0 h1 h2
  exact ⟨⟨n0, l1, l2⟩, _, _, rfl, g1, g2, wf_i64 g0⟩
theorem open_Rules {cs : List Value} (h : Reads enc Tryz.prog w 24 cs) : ∃ v l, cs = [v] ∧ RulesIs w v l := by
  obtain ⟨a, n, cap, rfl, h1, h2, h3, h4⟩ := open_slc (sz := 6) (byt := 96) Tryz.underlying24 cellsRule (by omega) (by kernel_rfl) h
  by_cases hp : 0 < n
  · obtain ⟨b, off, rfl, hb, hel⟩ := h4 hp
    obtain ⟨l, hl, hq⟩ := list_of ((default : GR), nilS, nilS, nilS) (Q := fun i (q : GR × Value × Value × Value) => (∀ j, j < 6 → w.cell? ⟨b, off + i * 6 + j, none⟩ = some (ruleCell q.1 q.2.1 q.2.2.1 q.2.2.2 j)) ∧ RuleSl w q.1 q.2.1 q.2.2.1 q.2.2.2) n (fun i hi => by
      obtain ⟨cs', h5, h6, h7⟩ := hel i hi
      obtain ⟨r, vh, vb, vw, rfl, hr⟩ := open_Rule h7
      refine ⟨(r, vh, vb, vw), fun j hj => ?_, hr⟩
      rw [h6 j hj]
      rcases (show j = 0 ∨ j = 1 ∨ j = 2 ∨ j = 3 ∨ j = 4 ∨ j = 5 by omega) with rfl | rfl | rfl | rfl | rfl | rfl <;> rfl)
    have hix : ∀ i, i < n → ixR (l.map (·.1)) i = (l.getD i (default, nilS, nilS, nilS)).1 := fun i hi => by
      simp [ixR, List.getD_eq_getElem?_getD, List.getElem?_eq_getElem (show i < l.length by omega)]
    refine ⟨_, l.map (·.1), rfl, fun i => (l.getD i (default, nilS, nilS, nilS)).2.1, fun i => (l.getD i (default, nilS, nilS, nilS)).2.2.1, fun i => (l.getD i (default, nilS, nilS, nilS)).2.2.2,
      ⟨_, cap, by rw [List.length_map, hl], by simp [hl]; omega, h2, by simp [hl]; omega, fun _ => ⟨b, off, rfl, hb, fun i hi j hj => ?_⟩⟩, fun i hi => ?_⟩
    · simp only [List.length_map, hl] at hi
      dsimp only
      rw [hix i hi]
      exact (hq i hi).1 j hj
    · simp only [List.length_map, hl] at hi
      rw [hix i hi]
      exact (hq i hi).2
  · obtain rfl : n = 0 := by omega
    exact ⟨_, [], rfl, fun _ => nilS, fun _ => nilS, fun _ => nilS, ⟨a, cap, rfl, h1, h2, by simp, fun h => absurd h (by simp)⟩, fun i hi => absurd hi (by simp)⟩
theorem open_Mins {cs : List Value} (h : Reads enc Tryz.prog w 25 cs) : ∃ v l, cs = [v] ∧ MinsIs w v l := by
  obtain ⟨a, n, cap, rfl, h1, h2, h3, h4⟩ := open_slc (sz := 3) (byt := 56) Tryz.underlying25 cellsMin (by omega) (by kernel_rfl) h
  by_cases hp : 0 < n
  · obtain ⟨b, off, rfl, hb, hel⟩ := h4 hp
    obtain ⟨l, hl, hq⟩ := list_of ((default : GM), nilS, nilS) (Q := fun i (q : GM × Value × Value) => (∀ j, j < 3 → w.cell? ⟨b, off + i * 3 + j, none⟩ = some (minCell q.1 q.2.1 q.2.2 j)) ∧ MinSl w q.1 q.2.1 q.2.2) n (fun i hi => by
      obtain ⟨cs', h5, h6, h7⟩ := hel i hi
      obtain ⟨r, vl, vw, rfl, hr⟩ := open_Min h7
      refine ⟨(r, vl, vw), fun j hj => ?_, hr⟩
      rw [h6 j hj]
      rcases (show j = 0 ∨ j = 1 ∨ j = 2 by omega) with rfl | rfl | rfl <;> rfl)
    have hix : ∀ i, i < n → ixM (l.map (·.1)) i = (l.getD i (default, nilS, nilS)).1 := fun i hi => by
      simp [ixM, List.getD_eq_getElem?_getD, List.getElem?_eq_getElem (show i < l.length by omega)]
    refine ⟨_, l.map (·.1), rfl, fun i => (l.getD i (default, nilS, nilS)).2.1, fun i => (l.getD i (default, nilS, nilS)).2.2,
      ⟨_, cap, by rw [List.length_map, hl], by simp [hl]; omega, h2, by simp [hl]; omega, fun _ => ⟨b, off, rfl, hb, fun i hi j hj => ?_⟩⟩, fun i hi => ?_⟩
    · simp only [List.length_map, hl] at hi
      dsimp only
      rw [hix i hi]
      exact (hq i hi).1 j hj
    · simp only [List.length_map, hl] at hi
      rw [hix i hi]
      exact (hq i hi).2
  · obtain rfl : n = 0 := by omega
    exact ⟨_, [], rfl, fun _ => nilS, fun _ => nilS, ⟨a, cap, rfl, h1, h2, by simp, fun h => absurd h (by simp)⟩, fun i hi => absurd hi (by simp)⟩
theorem open_Prog {cs : List Value} (h : Reads enc Tryz.prog w 27 cs) : ∃ (p : GP) (vn vs vr vm : Value), cs = [.int .i64 p.n, vn, vs, vr, vm] ∧ ProgSl w p vn vs vr vm := by
  have hl := open_len Tryz.underlying27 h
  have f0 := open_at Tryz.underlying27 h 0 3 0 1 rfl cellsI
  have f1 := open_at Tryz.underlying27 h 1 22 1 1 rfl cellsSs
  have f2 := open_at Tryz.underlying27 h 2 23 2 1 rfl cellsIs
  have f3 := open_at Tryz.underlying27 h 3 24 3 1 rfl cellsRs
  have f4 := open_at Tryz.underlying27 h 4 25 4 1 rfl cellsMs
  rw [cellsProg] at hl
  obtain ⟨c0, c1, c2, c3, c4, rfl⟩ := five hl
  simp only [List.drop_succ_cons, List.drop_zero, List.take_succ_cons, List.take_zero] at f0 f1 f2 f3 f4
  obtain ⟨n0, h0, g0⟩ := open_int1 Tryz.underlying3 f0
  obtain ⟨v1, l1, h1, g1⟩ := open_Strs f1
  obtain ⟨v2, l2, h2, g2⟩ := open_Ints f2
  obtain ⟨v3, l3, h3, g3⟩ := open_Rules f3
  obtain ⟨v4, l4, h4, g4⟩ := open_Mins f4
  simp only [List.cons.injEq, and_true] at h0 h1 h2 h3 h4
  subst h0 h1 h2 h3 h4
  exact ⟨⟨n0, l1, l2, l3, l4⟩, _, _, _, _, rfl, wf_i64 g0, g1, g2, g3, g4⟩
end
def bitAt (bits : Int) (k : Nat) : Bool := decide (bits / 2 ^ k % 2 = 1)
def subL (bits : Int) : Nat → List Int
  | 0 => []
  | k + 1 => if bitAt bits k then subL bits k ++ [(k : Int) + 1] else subL bits k
theorem subL_range (bits : Int) : ∀ k, ∀ x ∈ subL bits k, 1 ≤ x ∧ x ≤ k
  | 0, x, h => by simp [subL] at h
  | k + 1, x, h => by
    unfold subL at h
    split at h
    · rcases List.mem_append.1 h with h | h
      · have := subL_range bits k x h; omega
      · obtain rfl : x = (k : Int) + 1 := by simpa using h
        omega
    · have := subL_range bits k x h; omega
theorem subL_sorted (bits : Int) : ∀ k, (subL bits k).Pairwise (· < ·)
  | 0 => by simp [subL]
  | k + 1 => by
    unfold subL
    split
    · refine List.pairwise_append.2 ⟨subL_sorted bits k, by simp, fun x hx y hy => ?_⟩
      obtain rfl : y = (k : Int) + 1 := by simpa using hy
      have := subL_range bits k x hx
      omega
    · exact subL_sorted bits k
theorem and_one_i64 (x : Int) : Go.bits .and .i64 x 1 = x % 2 := by
  unfold Go.bits
  simp only [BitVec.toNat_and, BitVec.toNat_ofInt]
  have e : ((1 : Int) % ((2 ^ IntKind.i64.bits : Nat) : Int)).toNat = 1 := by decide
  rw [e, Nat.and_one_is_mod]
  have e2 : ((2 ^ IntKind.i64.bits : Nat) : Int) = 18446744073709551616 := by decide
  rw [e2, IntKind.wrap_i64]
  omega
theorem bit_test {bits : Int} {k : Nat} : (Go.bits .and .i64 (bits / 2 ^ k) 1 == 1) = bitAt bits k := by
  rw [and_one_i64]
  unfold bitAt
  rw [Bool.eq_iff_iff, beq_iff_eq, decide_eq_true_eq]
structure LwSt (w : World) (p : GP) (vn vs vr vm : Value) (W : World) : Prop where
  box : Blk W w.heap.size [.int .i64 p.n, vn, vs, vr, vm] 27
  prog : ProgIs W (.agg #[.int .i64 p.n, vn, vs, vr, vm]) p
  below : Below w.heap.size w W
theorem LwSt.on {w W W' : World} {p : GP} {vn vs vr vm : Value} (h : LwSt w p vn vs vr vm W) (hb : Below W.heap.size W W') : LwSt w p vn vs vr vm W' := ⟨h.box.below hb, h.prog.below hb, bon h.below hb⟩
theorem LwSt.alloc {w W : World} {p : GP} {vn vs vr vm : Value} (h : LwSt w p vn vs vr vm W) (o : Obj) : LwSt w p vn vs vr vm (W.alloc o) := h.on (bal (Below.refl _ _) _)
theorem LwSt.start {w : World} {p : GP} {vn vs vr vm : Value} (h : ProgIs w (.agg #[.int .i64 p.n, vn, vs, vr, vm]) p) : LwSt w p vn vs vr vm (w.alloc (.cells #[.int .i64 p.n, vn, vs, vr, vm] 27)) := by
  have hal : Below w.heap.size w (w.alloc (.cells #[.int .i64 p.n, vn, vs, vr, vm] 27)) := bal (Below.refl _ _) _
  exact ⟨Blk.new w _ _, h.below hal, hal⟩
end Go.Proofs.YtjodocheiejkeaaGreatDoor
