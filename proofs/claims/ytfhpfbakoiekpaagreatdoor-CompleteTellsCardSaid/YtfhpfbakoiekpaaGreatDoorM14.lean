/- My texts Mk1, CpV, Perm5, PermK, merged. -/
import Derived.Test.YtfhpfbakoiekpaaGreatDoorM13
import Derived.Test.YtfhpfbakoiekpaaGreatDoorM12
import Derived.Test.YtfhpfbakoiekpaaGreatDoorM08
import Derived.Test.YtfhpfbakoiekpaaGreatDoorM02
import Derived.Maps.OwnIn
import Derived.Test.YtfhpfbakoiekpaaGreatDoorM06
import Derived.Test.YtfhpfbakoiekpaaGreatDoorM05
import Derived.Laws.EntriesVeiled
import Derived.Test.YtfhpfbakoiekpaaGreatDoorM04
import Derived.Test.YtfhpfbakoiekpaaGreatDoorM09

/- loops.Make: what its loop keeps. -/
namespace Go.Proofs.YtfhpfbakoiekpaaGreatDoor
open Go.RowKit

theorem reasP_len (u : SU) (a : List Int) : (reasP u a).length ≤ u.r.body.length + 1 := by
  unfold reasP
  split
  · simp
  · split
    · simp
    · have h2 : (reas2 u a).length ≤ u.r.body.length + 1 := by
        unfold reas2
        split
        · simp
        · have := List.length_filter_le (fun l => !(intB u.S l || !offB a l)) u.r.body
          omega
      unfold reas1
      split
      · exact h2
      · split
        · simp
        · exact h2

/-- What the loop of Make keeps: the literals lie in the box behind w1's first new block. -/
def MkI (a : List Int) (x0 : Int) (w1 : World) (n6 : Nat) (sl : List SU) (W : World) : Prop :=
  ∃ v, Blk W (w1.heap.size + 1) [v] 23 ∧ QRow w1.heap.size W v ([x0] ++ reasAll a sl) ∧ Below w1.heap.size w1 W ∧ ([x0] ++ reasAll a sl).length ≤ 1 + 8003 * sl.length ∧ (∀ g, v.ownBlock = some g → g = w1.heap.size ∨ n6 ≤ g) ∧ n6 ≤ W.heap.size

theorem MkI.on {n6 : Nat} {a : List Int} {x0 : Int} {w1 W W' : World} {sl : List SU} (h : MkI a x0 w1 n6 sl W) (hb : Below W.heap.size W W') : MkI a x0 w1 n6 sl W' :=
  let ⟨v, h1, h2, h3, h4, h5, h6⟩ := h; ⟨v, h1.below hb, h2.below hb, h3.trans (hb.mono h3.size), h4, h5, Nat.le_trans h6 hb.size⟩

theorem MkI.start {a : List Int} {x0 : Int} {w1 W6 : World} (hx : InI x0) (hb6 : Below (w1.heap.size + 1 + 1) ((w1.alloc (.cells #[.int .i64 x0] 3)).alloc (.cells #[.slice (some ⟨w1.heap.size, 0, none⟩) 1 1] 23)) W6) : MkI a x0 w1 W6.heap.size [] W6 := by
  have hb := (Blk.new w1 [.int .i64 x0] 3).alloc (.cells #[.slice (some ⟨w1.heap.size, 0, none⟩) 1 1] 23)
  have hz : ((w1.alloc (.cells #[.int .i64 x0] 3)).alloc (.cells #[.slice (some ⟨w1.heap.size, 0, none⟩) 1 1] 23)).heap.size = w1.heap.size + 1 + 1 := by simp
  rw [← hz] at hb6
  refine ⟨_, (Blk.new2 w1 _ [_] _).below hb6, QRow.below ⟨fitI fun x h => by obtain rfl := List.mem_singleton.1 (by simpa [reasAll] using h); exact hx, .inr ⟨w1.heap.size, 0, 1, _, by simp [reasAll], Nat.le_refl _, hb, by simp [reasAll], by unfold maxLen; omega, by simp, fun i hi => ?_⟩⟩ hb6, (bal (bal (Below.refl _ _) _) _).trans (hb6.mono (by omega)), by simp [reasAll], fun g e => .inl ?_, Nat.le_refl _⟩
  · simp [reasAll] at hi
    subst hi
    rfl
  · simpa [Value.ownBlock] using e.symm

theorem keeps_row {B base : Nat} {W W' : World} {v : Value} {l : List Int} (hq : QRow base W v l) (hg : W.grownBy W' v.ownBlock) : KeepsFrom B W W' :=
  ⟨hg.size, fun k o _ hk hc => (hg.block k (Array.getElem?_eq_some_iff.1 hk).1 (fun e => by
    rcases hq.2 with ⟨rfl, _⟩ | ⟨g, off, cap, cur, rfl, _, hgg, _⟩
    · cases e
    · obtain rfl : k = g := Option.some.inj e
      rw [hgg] at hk
      cases hk
      cases hc)).trans hk⟩

/-- Behind the append and the store. -/
theorem MkI.push {a : List Int} {x0 : Int} {w1 W2 W3 : World} {n6 : Nat} {sl : List SU} {u : SU} {v v' : Value} (hb : Blk W2 (w1.heap.size + 1) [v] 23) (hq : QRow w1.heap.size W2 v ([x0] ++ reasAll a sl)) (hB : Below w1.heap.size w1 W2) (hlen : ([x0] ++ reasAll a sl).length ≤ 1 + 8003 * sl.length) (hown : ∀ g, v.ownBlock = some g → g = w1.heap.size ∨ n6 ≤ g) (hn : n6 ≤ W2.heap.size)
    (hu : u.r.body.length ≤ 8002) (hq3 : QRow w1.heap.size W3 v' (([x0] ++ reasAll a sl) ++ reasP u a)) (hg : W2.grownBy W3 v.ownBlock) (ho : v'.ownBlock = v.ownBlock ∨ v'.ownBlock = some W2.heap.size) :
    Blk W3 (w1.heap.size + 1) [v] 23 ∧ MkI a x0 w1 n6 (sl ++ [u]) (W3.setCell ⟨w1.heap.size + 1, 0, none⟩ v') ∧ Lim n6 [w1.heap.size, w1.heap.size + 1] W2 (W3.setCell ⟨w1.heap.size + 1, 0, none⟩ v') ∧ KeepsFrom n6 W2 (W3.setCell ⟨w1.heap.size + 1, 0, none⟩ v') := by
  have hb3 : Blk W3 (w1.heap.size + 1) [v] 23 := hb.same (hg.block _ hb.lt (fun e => (hq.far hb (by decide)) e.symm))
  refine ⟨hb3, ⟨v', by simpa using hb3.set 0 v', ?_, (hB.grown hg hB.size (fun k e => (hq.base e).1)).setCell (p := ⟨w1.heap.size + 1, 0, none⟩) (by show w1.heap.size ≤ w1.heap.size + 1; omega) _, ?_, fun g e => ?_, by rw [size_set]; exact Nat.le_trans hn hg.size⟩, ?_, (keeps_row hq hg).trans ((KeepsOthers.setCell _ _ _).from _)⟩
  · rw [reasAll_snoc, ← List.append_assoc]
    have hne : v'.ownBlock ≠ some (w1.heap.size + 1) := hq3.far hb3 (by decide)
    exact hq3.kept fun i _ _ e => Below.heap_setCell _ _ _ _ (fun e2 => hne (by rw [e, e2]))
  · rw [reasAll_snoc]
    have := reasP_len u a
    simp only [List.length_append, List.length_cons, List.length_nil] at *
    omega
  · rcases ho with h | h
    · exact hown g (h ▸ e)
    · rw [h] at e
      have := Option.some.inj e
      exact .inr (by omega)
  · refine Lim.trans ⟨hg.os, hg.tape, hg.output, hg.size, fun k hk hs => hg.block k (by omega) (fun e => ?_)⟩ (Lim.setCell _ (.inl (by simp)))
    simp only [List.mem_cons, List.not_mem_nil, or_false, not_or] at hs
    have := hown k e.symm
    omega

end Go.Proofs.YtfhpfbakoiekpaaGreatDoor

/- The completion of a valid program: bounds (plain). -/
namespace Go.Proofs.YtfhpfbakoiekpaaGreatDoor

theorem ordered_len {l : List Int} {n : Int} (h : orderedB l n = true) (hn : 0 ≤ n) : (l.length : Int) ≤ 2 * n := by
  have hp : (l.map litKey).Pairwise (· < ·) := by
    rw [List.pairwise_iff_getElem]
    intro i j hi hj hij
    simp only [List.length_map] at hi hj
    have := ordered_lt h j hj i hij
    simpa [ix, List.getD_eq_getElem?_getD, List.getElem?_eq_getElem hi, List.getElem?_eq_getElem hj] using this
  have := lt_length (l.map litKey) 2 (2 * n + 2) hp (fun x hx => by
    obtain ⟨y, hy, rfl⟩ := List.mem_map.1 hx
    have := ordered_lit h hy
    unfold litKey
    split <;> omega) (by omega)
  simp at this; omega

theorem inc_lt {l : List Int} {n : Int} (h : increasingB l n = true) {i j : Nat} (hj : j < l.length) (hij : i < j) : ix l i < ix l j := by
  have h1 := ordered_lt (increasing_ordered h) j hj i hij
  have h2 := inc_pos h hj
  have h3 := inc_pos h (show i < l.length by omega)
  unfold litKey at h1
  rw [if_pos (by omega), if_pos (by omega)] at h1
  omega

theorem compV_valid {p : GP} (hv : validE p = 0) : CompV p := by
  have hP := validP hv
  have hn := hP.n
  refine ⟨hP.n, hP.rules, fun i hi => ?_⟩
  have hR := ruleE_at hv hi
  have hh := hP.head i hi
  have hb := hP.body i hi
  have ho : orderedB (ixR p.rules i).head p.n = true := by unfold increasingB at hh; rw [Bool.and_eq_true] at hh; exact hh.1
  refine ⟨hP.n, fun x hx => ?_, fun x hx => ordered_lit hb hx, ⟨?_, ?_⟩, fun hs => ?_⟩
  · obtain ⟨j, hj, rfl⟩ := mem_ix.1 hx
    have := inc_pos hh hj
    omega
  · have := ordered_len hb hn.1; omega
  · have := ordered_len ho hn.1; omega
  · obtain ⟨h1, h2, h3⟩ := weights_sum (hP.sum i hi hs)
    refine ⟨by omega, h2, (h3 _ (Nat.le_refl _)).2, hP.bound i hi, ?_⟩
    unfold ruleE at hR
    split at hR
    · omega
    split at hR
    · omega
    split at hR
    · omega
    split at hR
    · omega
    · rename_i h
      exact Classical.byContradiction fun hc => h (.inr ⟨hs, .inr (.inr (by omega))⟩)

theorem sumTo_mono {K : List Int} (h : ∀ j, j < K.length → 1 ≤ ix K j) : ∀ (n i : Nat), i ≤ n → n ≤ K.length → sumTo K i ≤ sumTo K n
  | 0, i, hi, _ => by obtain rfl : i = 0 := by omega
                      exact Int.le_refl _
  | n + 1, i, hi, hn => by
    by_cases e : i = n + 1
    · subst e; exact Int.le_refl _
    · have := sumTo_mono h n i (by omega) (by omega)
      have := h n (by omega)
      simp only [sumTo] at *
      omega

theorem CompV.counts {p : GP} (h : CompV p) : ∀ k, k ≤ p.rules.length → compNs p k ≤ 8002 * k
  | 0, _ => by simp [compNs]
  | k + 1, hk => by
    have ih := h.counts k (by omega)
    have := (h.rule k (by omega)).len
    unfold compNs compN
    split <;> split <;> omega

theorem CompV.lenTo {p : GP} (h : CompV p) {k : Nat} (hk : k ≤ p.rules.length) : (compTo p k).length ≤ 400000000 := by
  have h1 := h.counts k hk
  have h2 := h.rules
  rw [compTo_len]
  omega

/-- The support of a, when the heads' first j atoms of rule k have been met. -/
def supIn (p : GP) (k j : Nat) (a : Int) : List Int := supAt' p a k ++ (if a ∈ (ixR p.rules k).head.take j then [p.n + 1 + k] else [])

theorem supIn_zero (p : GP) (k : Nat) : supIn p k 0 = fun a => supAt' p a k := by funext a; simp [supIn]
theorem supIn_all (p : GP) (k : Nat) : supIn p k (ixR p.rules k).head.length = fun a => supAt' p a (k + 1) := by funext a; simp [supIn, supAt']

theorem inc_nodup {l : List Int} {n : Int} (h : increasingB l n = true) {j : Nat} (hj : j < l.length) : ix l j ∉ l.take j := by
  intro hm
  obtain ⟨i, hi, e⟩ := mem_ix.1 hm
  rw [List.length_take] at hi
  have h1 := inc_lt h hj (show i < j by omega)
  have e2 : ix (l.take j) i = l[i]'(by omega) := by
    rw [ix_get (by rw [List.length_take]; omega)]
    exact List.getElem_take
  rw [e2, ← ix_get] at e
  omega

theorem supIn_next {p : GP} (hv : validE p = 0) {k j : Nat} (hk : k < p.rules.length) (hj : j < (ixR p.rules k).head.length) :
    supIn p k (j + 1) = setL' (supIn p k j) (ix (ixR p.rules k).head j) (supIn p k j (ix (ixR p.rules k).head j) ++ [p.n + 1 + k]) := by
  have hn := inc_nodup ((validP hv).head k hk) hj
  have ht : (ixR p.rules k).head.take (j + 1) = (ixR p.rules k).head.take j ++ [ix (ixR p.rules k).head j] := by
    rw [List.take_add_one, List.getElem?_eq_getElem hj, ix_get hj]; rfl
  funext a
  unfold setL' supIn
  rw [ht]
  by_cases e : a = ix (ixR p.rules k).head j
  · subst e
    rw [if_pos rfl, if_pos (by simp), if_neg hn, List.append_nil]
  · rw [if_neg e]
    have : (a ∈ (ixR p.rules k).head.take j ++ [ix (ixR p.rules k).head j]) ↔ a ∈ (ixR p.rules k).head.take j := by simp [e]
    simp only [this]

end Go.Proofs.YtfhpfbakoiekpaaGreatDoor

/- Regions that draw their order, with ONE call of a Go function that may write, in the tail. -/
namespace Go.Proofs.YtfhpfbakoiekpaaGreatDoor
open Go.RowKit

/-- The operation enters a Go function. -/
def Enters (P : Program) (o : Oper) (a : Act) (w : World) : Prop := ∃ f args w', (execOp a.eval o).run P w = .ok (.enter f args) w'

theorem wp_agreeC {P : Program} {ops : Array Oper} {o : Oper} (hs : ∀ cs b, o.op ≠ .select cs b) {a b : Act} (h : Agree ops o a b) {w : World} (ht : tame o = true ∨ Enters P o a w) {K : Act → World → Prop} {Q : Exit → Act → World → Prop} (hw : o.wp P a w K (fun _ _ _ => False)) :
    o.wp P b w (fun b' w' => ∃ v, b' = b.put o.dst v ∧ K (a.put o.dst v) w') Q := by
  rcases ht with ht | ⟨f, args, w', hr⟩
  · exact wp_agree hs ht h hw
  · unfold Oper.wp at *
    rw [← execOp_congr o hs h.eval]
    rw [hr] at hw ⊢
    rw [Oper.upon_enter] at hw ⊢
    refine Calls.mono hw fun e w2 he => ?_
    cases e with
    | returned v => exact ⟨v, rfl, he⟩
    | panicked c => exact he.elim
    | outgrown => obtain ⟨_, _, h⟩ := he; exact h.elim

section
variable {P : Program} {l : List Oper} {w0 : World} {Φ : Nat → List Value → Value → Nat → Nat → World → Prop} {ism : Nat → Bool} {D : Nat → Nat → Bool} {Q : Exit → Act → World → Prop} {E : Act → World → Prop} {Cl : Nat → World → Prop} {n : Nat} {a0 : Act}

end

section
variable {P : Program} {l : List Oper} {s : List Nat} {Q : Exit → Act → World → Prop}

end

end Go.Proofs.YtfhpfbakoiekpaaGreatDoor

/- A region that draws its order, by what holds when some of its operations have come up; calls of Go functions among them. -/
namespace Go.Proofs.YtfhpfbakoiekpaaGreatDoor
open Go.RowKit

section
variable {P : Program} {l : List Oper} {D : Nat → Nat → Bool} {Q : Exit → Act → World → Prop} {a0 : Act}

/-- As StepJ; the operation may enter a Go function. -/
def StepK (P : Program) (l : List Oper) (a0 : Act) (W : (Nat → Value) → (Nat → Bool) → World → Prop) (i : Nat) (vals : Nat → Value) (L : Nat → Bool) (w : World) : Prop :=
  StepJ P l a0 W i vals L w ∧ (tame (opAt l i) = true ∨ Enters P (opAt l i) (Afr l a0 vals i) w)

theorem StepK.of {W : (Nat → Value) → (Nat → Bool) → World → Prop} {i : Nat} {vals : Nat → Value} {L : Nat → Bool} {w : World} (hw : Region.wanted (opAt l i) (yielded l.toArray (Afr l a0 vals i).tmps) = true) (ht : tame (opAt l i) = true)
    (h : ∀ K : Act → World → Prop, (∀ v w', W (updN vals i v) (updN L i true) w' → K ((Afr l a0 vals i).put (opAt l i).dst v) w') → (opAt l i).wp P (Afr l a0 vals i) w K (fun _ _ _ => False)) : StepK P l a0 W i vals L w := ⟨.of hw h, .inl ht⟩
theorem StepK.call {W : (Nat → Value) → (Nat → Bool) → World → Prop} {i : Nat} {vals : Nat → Value} {L : Nat → Bool} {w : World} (hw : Region.wanted (opAt l i) (yielded l.toArray (Afr l a0 vals i).tmps) = true) (ht : Enters P (opAt l i) (Afr l a0 vals i) w)
    (h : ∀ K : Act → World → Prop, (∀ v w', W (updN vals i v) (updN L i true) w' → K ((Afr l a0 vals i).put (opAt l i).dst v) w') → (opAt l i).wp P (Afr l a0 vals i) w K (fun _ _ _ => False)) : StepK P l a0 W i vals L w := ⟨.of hw h, .inr ht⟩

theorem any_invK (c : Chk l.toArray D) (W : (Nat → Value) → (Nat → Bool) → World → Prop)
    (hstep : ∀ i, i < l.length → ∀ vals L w, L i = false → (∀ j, j < l.length → D i j = true → L j = true) → (∀ k, k < l.length → L k = true → ∀ j, j < l.length → D k j = true → L j = true) → W vals L w → StepK P l a0 W i vals L w)
    (hend : ∀ vals L w, (∀ i, i < l.length → L i = true) → W vals L w → Q .normal (Afr l a0 vals l.length) w) :
    ∀ (fuel : Nat) (listed : Array Bool) (w : World) (vals : Nat → Value), listed.size = l.length → unl listed l.length ≤ fuel →
      (∀ k, k < l.length → listed.getD k false = true → ∀ i, i < l.length → D k i = true → listed.getD i false = true) →
      W vals (fun j => listed.getD j false) w → wpAny P .any l.toArray Q fuel listed (fr l.toArray vals (fun j => listed.getD j false) a0 l.length) w := by
  intro fuel
  have hfin : ∀ (listed : Array Bool) (w : World) (vals : Nat → Value), listed.size = l.length → W vals (fun j => listed.getD j false) w → Region.ready .any l.toArray listed = [] → Q .normal (fr l.toArray vals (fun j => listed.getD j false) a0 l.length) w := by
    intro listed w vals hsz hw hr
    have hall := all_listed c hsz hr
    have e : fr l.toArray vals (fun j => listed.getD j false) a0 l.length = Afr l a0 vals l.length := fr_congr _ (fun k hk => ⟨hall k hk, fun _ => rfl⟩)
    rw [e]
    exact hend vals _ w hall hw
  induction fuel with
  | zero =>
    intro listed w vals hsz hfuel hcl hw
    have hr := ready_nil (l := l) hsz (unl_zero (listed := listed) l.length (by omega))
    exact ⟨hr, hfin listed w vals hsz hw hr⟩
  | succ fuel ih =>
    intro listed w vals hsz hfuel hcl hw
    refine ⟨hfin listed w vals hsz hw, fun i hir => ?_⟩
    obtain ⟨h0, o, ho, hdep⟩ := mem_ready.1 hir
    have hil : i < l.length := by have := (Array.getElem?_eq_some_iff.1 ho).1; simpa using this
    have hlt : i < listed.size := by omega
    obtain rfl : o = opAt l i := by rw [opAt_eq hil] at ho; exact (Option.some.inj ho).symm
    have hiun : listed.getD i false = false := by simp [hlt] at h0 ⊢; exact h0
    have hdeps := deps_listed c hcl hil hdep
    have hno : ∀ k, k < l.length → listed.getD k false = true → D k i = false := fun k hk hlk => by
      cases hd : D k i with
      | false => rfl
      | true => rw [hcl k hk hlk i hil hd] at hiun; cases hiun
    have hfuel' : unl (listed.setIfInBounds i true) l.length ≤ fuel := by have := (unl_set hlt hiun l.length).2 hil; omega
    have hsel : ∀ cs b, (opAt l i).op ≠ .select cs b := fun cs b => c.sel i _ cs b (opAt_eq hil)
    have hag := agree_real (a0 := a0) (v1 := vals) (vals := vals) c hil hiun hdeps hno (fun k hk hlk => rfl)
    obtain ⟨⟨hwant, hwp⟩, htm⟩ := hstep i hil vals _ w hiun hdeps hcl hw
    have := wp_agreeC (Q := Q) hsel hag htm hwp
    unfold wpOp
    simp only [opAt_eq hil]
    rw [← hag.wanted, hwant, if_pos rfl]
    refine .inl (Oper.wp_mono (fun b' w' ⟨v, hb', v2, hv2, hW⟩ => ?_) this)
    rw [hb', put_other hag.1 hv2, fr_step c hil hlt hiun hno]
    refine ih _ w' _ (by simpa using hsz) hfuel' (closed_set hlt hcl hdeps) ?_
    have e : (fun j => (listed.setIfInBounds i true).getD j false) = updN (fun j => listed.getD j false) i true := by
      funext j
      rw [getD_set hlt]
      rfl
    rw [e]
    exact hW

theorem wp_region_invK {id : Nat} {w : World} (W : (Nat → Value) → (Nat → Bool) → World → Prop) (hm : P.follows .mixedOrders = true) (hB : chk l.toArray (masks l) = true) (h0 : W (fun _ => undef) (fun _ => false) w.drew)
    (hstep : ∀ i, i < l.length → ∀ vals L w, L i = false → (∀ j, j < l.length → dm (masks l) i j = true → L j = true) → (∀ k, k < l.length → L k = true → ∀ j, j < l.length → dm (masks l) k j = true → L j = true) → W vals L w → StepK P l a0 W i vals L w)
    (hend : ∀ vals L w, (∀ i, i < l.length → L i = true) → W vals L w → Q .normal (Afr l a0 vals l.length) w) : (Code.region id l.toArray true).wp P Q a0 w := by
  refine wp_region_any hm ?_
  have hun : ∀ k, unl (Array.replicate l.toArray.size false) k ≤ k := fun k => by
    induction k with
    | zero => exact Nat.le_refl _
    | succ k ih => unfold unl; split <;> omega
  have hf : ∀ j, (Array.replicate l.toArray.size false).getD j false = false := fun j => by
    simp only [Array.getD_eq_getD_getElem?, Array.getElem?_replicate]
    split <;> simp
  have hff : (fun j => (Array.replicate l.toArray.size false).getD j false) = fun _ => false := funext hf
  have := any_invK (Q := Q) (a0 := a0) (chk_spec hB) W hstep hend l.toArray.size (Array.replicate l.toArray.size false) { w with drawn := w.drawn + 1 } (fun _ => undef) (by simp) (by simpa using hun l.length)
    (fun k _ h => by rw [hf] at h; cases h) (by rw [hff]; exact h0)
  have e : ∀ k, fr l.toArray (fun _ => undef) (fun j => (Array.replicate l.toArray.size false).getD j false) a0 k = a0 := fun k => by
    induction k with
    | zero => rfl
    | succ k ih => rw [fr, if_neg (by rw [hf]; exact Bool.false_ne_true), ih]
  rw [e] at this
  exact this
end

end Go.Proofs.YtfhpfbakoiekpaaGreatDoor
