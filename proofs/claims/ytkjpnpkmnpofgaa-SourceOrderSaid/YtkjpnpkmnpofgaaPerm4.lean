/- The operations of a region that draws its order, listed in another order: what holds of every order of the one listing holds of every order of the other. -/
import Derived.Test.YtkjpnpkmnpofgaaPerm3
namespace Go.Proofs.Ytkjpnpkmnpofgaa
open Go.RowKit

/-- The place at which the listing s holds i. -/
def atIn (s : List Nat) (i : Nat) : Nat := s.idxOf i

def reix (s : List Nat) (o : Oper) : Oper := ⟨o.dst, o.op, o.type, o.pos, o.after.map fun e => ⟨atIn s e.on, e.ground⟩, o.guard.map fun p => (atIn s p.1, p.2)⟩

def reorder (l : List Oper) (s : List Nat) : List Oper := s.map fun i => reix s (l.getD i default)

def permB (l : List Oper) (s : List Nat) : Bool :=
  decide (s.length = l.length) && ((List.range l.length).all fun i => decide (atIn s i < l.length) && (s.getD (atIn s i) 0 == i) && decide (s.getD i 0 < l.length) && (atIn s (s.getD i 0) == i)) &&
  l.all fun o => (o.after.all fun e => decide (e.on < l.length)) && match o.guard with | some (g, _) => decide (g < l.length) | none => true

structure Perm (l : List Oper) (s : List Nat) : Prop where
  len : s.length = l.length
  lt : ∀ i, i < l.length → atIn s i < l.length
  back : ∀ i, i < l.length → s.getD (atIn s i) 0 = i
  lt' : ∀ i, i < l.length → s.getD i 0 < l.length
  back' : ∀ i, i < l.length → atIn s (s.getD i 0) = i
  edge : ∀ (i : Nat) (o : Oper), l[i]? = some o → ∀ e ∈ o.after, e.on < l.length
  guard : ∀ (i : Nat) (o : Oper), l[i]? = some o → ∀ g b, o.guard = some (g, b) → g < l.length

theorem permB_spec {l : List Oper} {s : List Nat} (h : permB l s = true) : Perm l s := by
  unfold permB at h
  simp only [Bool.and_eq_true, decide_eq_true_eq, List.all_eq_true, List.mem_range, beq_iff_eq, Array.all_eq_true_iff_forall_mem] at h
  obtain ⟨⟨h1, h2⟩, h3⟩ := h
  refine ⟨h1, fun i hi => (h2 i hi).1.1.1, fun i hi => (h2 i hi).1.1.2, fun i hi => (h2 i hi).1.2, fun i hi => (h2 i hi).2, fun i o ho => (h3 o (List.mem_of_getElem? ho)).1, fun i o ho g b hg => ?_⟩
  have := (h3 o (List.mem_of_getElem? ho)).2
  rw [hg] at this
  simpa using this

section
variable {P : Program} {l : List Oper} {s : List Nat} {Q : Exit → Act → World → Prop}

theorem reorder_len : (reorder l s).length = s.length := by simp [reorder]

theorem reorder_at (c : Perm l s) {i : Nat} {o : Oper} (ho : l.toArray[i]? = some o) : (reorder l s).toArray[atIn s i]? = some (reix s o) := by
  have ho' : l[i]? = some o := by simpa using ho
  have hi : i < l.length := (List.getElem?_eq_some_iff.1 ho').1
  have h1 := c.lt i hi
  have h2 := c.back i hi
  have hlt : atIn s i < s.length := by rw [c.len]; exact h1
  have h3 : s[atIn s i]? = some i := by
    rw [List.getD_eq_getElem?_getD] at h2
    rw [List.getElem?_eq_getElem hlt] at h2 ⊢
    simpa using h2
  simp [reorder, h3, ho']

theorem reorder_yield (c : Perm l s) {a : Array Value} {g : Nat} (hg : g < l.length) : yielded (reorder l s).toArray a (atIn s g) = yielded l.toArray a g := by
  obtain ⟨o, ho⟩ : ∃ o, l.toArray[g]? = some o := ⟨_, Array.getElem?_eq_getElem (by simpa using hg)⟩
  unfold yielded
  rw [reorder_at c ho, ho]
  rfl

theorem reix_wanted (c : Perm l s) {a : Array Value} {i : Nat} {o : Oper} (ho : l.toArray[i]? = some o) : Region.wanted (reix s o) (yielded (reorder l s).toArray a) = Region.wanted o (yielded l.toArray a) := by
  unfold Region.wanted
  cases hg : o.guard with
  | none => simp [reix, hg]
  | some p =>
    obtain ⟨g, b⟩ := p
    have := c.guard i o (by simpa using ho) g b hg
    simp [reix, hg, reorder_yield c this]

theorem reix_wp {o : Oper} {a : Act} {w : World} {K : Act → World → Prop} : (reix s o).wp P a w K Q = o.wp P a w K Q := rfl

theorem reix_asks {o : Oper} {a : Act} {w : World} : (reix s o).asks P a w = o.asks P a w := rfl

/-- The two listings have come equally far. -/
def SameL (l : List Oper) (s : List Nat) (x y : Array Bool) : Prop := x.size = l.length ∧ y.size = l.length ∧ ∀ i, i < l.length → x.getD i false = y.getD (atIn s i) false

theorem ready_iff {ops : Array Oper} {x : Array Bool} {i : Nat} (hx : x.size = ops.size) : i ∈ Region.ready .any ops x ↔ ∃ o, ops[i]? = some o ∧ x.getD i false = false ∧ ∀ e ∈ o.after, Region.binds .any e = true → x.getD e.on false = true := by
  unfold Region.ready
  simp only [List.mem_filter, List.mem_range, Bool.and_eq_true, Bool.not_eq_true']
  constructor
  · rintro ⟨h1, h2, h3⟩
    have ho := Array.getElem?_eq_getElem h1
    refine ⟨_, ho, ?_, ?_⟩
    · simp only [Array.getD_eq_getD_getElem?, Array.getElem?_eq_getElem (show i < x.size by omega), Option.getD_some] at h2 ⊢
      exact h2
    · rw [ho] at h3
      simp only [Option.map_some, Option.getD_some, Array.all_eq_true_iff_forall_mem, Bool.or_eq_true, Bool.not_eq_true'] at h3
      intro e he hb
      rcases h3 e he with h4 | h4
      · rw [hb] at h4; cases h4
      · exact h4
  · rintro ⟨o, ho, h2, h3⟩
    have h1 : i < ops.size := (Array.getElem?_eq_some_iff.1 ho).1
    refine ⟨h1, ?_, ?_⟩
    · simp only [Array.getD_eq_getD_getElem?, Array.getElem?_eq_getElem (show i < x.size by omega), Option.getD_some] at h2 ⊢
      exact h2
    · rw [ho]
      simp only [Option.map_some, Option.getD_some, Array.all_eq_true_iff_forall_mem, Bool.or_eq_true, Bool.not_eq_true']
      intro e he
      cases hb : Region.binds .any e with
      | false => exact .inl rfl
      | true => exact .inr (h3 e he hb)

theorem ready_there (c : Perm l s) {x y : Array Bool} (h : SameL l s x y) {i : Nat} (hi : i ∈ Region.ready .any l.toArray x) : atIn s i ∈ Region.ready .any (reorder l s).toArray y := by
  obtain ⟨hx, hy, hxy⟩ := h
  obtain ⟨o, ho, h1, h2⟩ := (ready_iff (by simpa using hx)).1 hi
  have hil : i < l.length := by have := (Array.getElem?_eq_some_iff.1 ho).1; simpa using this
  refine (ready_iff (by simp [reorder_len, c.len, hy])).2 ⟨_, reorder_at c ho, by rw [← hxy i hil]; exact h1, fun e he hb => ?_⟩
  simp only [reix, Array.mem_map] at he
  obtain ⟨e', he', rfl⟩ := he
  have := c.edge i o (by simpa using ho) e' he'
  rw [← hxy _ this]
  exact h2 e' he' hb

theorem ready_back (c : Perm l s) {x y : Array Bool} (h : SameL l s x y) {j : Nat} (hj : j ∈ Region.ready .any (reorder l s).toArray y) : ∃ i, i ∈ Region.ready .any l.toArray x := by
  obtain ⟨hx, hy, hxy⟩ := h
  obtain ⟨o', ho', h1, h2⟩ := (ready_iff (by simp [reorder_len, c.len, hy])).1 hj
  have hjl : j < l.length := by have := (Array.getElem?_eq_some_iff.1 ho').1; simpa [reorder_len, c.len] using this
  have hil := c.lt' j hjl
  obtain ⟨o, ho⟩ : ∃ o, l.toArray[s.getD j 0]? = some o := ⟨_, Array.getElem?_eq_getElem (by simpa using hil)⟩
  have he := reorder_at c ho
  rw [c.back' j hjl, ho'] at he
  obtain rfl := Option.some.inj he
  refine ⟨s.getD j 0, (ready_iff (by simpa using hx)).2 ⟨o, ho, by rw [hxy _ hil, c.back' j hjl]; exact h1, fun e he hb => ?_⟩⟩
  have := c.edge _ o (by simpa using ho) e he
  rw [hxy _ this]
  exact h2 ⟨atIn s e.on, e.ground⟩ (by simp only [reix, Array.mem_map]; exact ⟨e, he, rfl⟩) hb

theorem SameL.set (c : Perm l s) {x y : Array Bool} (h : SameL l s x y) {i : Nat} (hi : i < l.length) : SameL l s (x.setIfInBounds i true) (y.setIfInBounds (atIn s i) true) := by
  obtain ⟨hx, hy, hxy⟩ := h
  have h1 := c.lt i hi
  refine ⟨by simpa using hx, by simpa using hy, fun k hk => ?_⟩
  rw [getD_set (by omega), getD_set (by omega)]
  by_cases hki : k = i
  · subst hki; simp
  · rw [if_neg hki, if_neg (fun e => hki (by rw [← c.back k hk, ← c.back i hi, e]))]
    exact hxy k hk

theorem any_perm (c : Perm l s) : ∀ (fuel : Nat) (x y : Array Bool) (a : Act) (w : World), SameL l s x y → wpAny P .any (reorder l s).toArray Q fuel y a w → wpAny P .any l.toArray Q fuel x a w := by
  have nil : ∀ x y, SameL l s x y → Region.ready .any l.toArray x = [] → Region.ready .any (reorder l s).toArray y = [] := fun x y h hr => by
    cases hy : Region.ready .any (reorder l s).toArray y with
    | nil => rfl
    | cons j js =>
      obtain ⟨i, hi⟩ := ready_back c h (j := j) (by rw [hy]; exact .head _)
      rw [hr] at hi; cases hi
  have nil' : ∀ x y, SameL l s x y → Region.ready .any (reorder l s).toArray y = [] → Region.ready .any l.toArray x = [] := fun x y h hr => by
    cases hx : Region.ready .any l.toArray x with
    | nil => rfl
    | cons i is =>
      have hi := ready_there c h (i := i) (by rw [hx]; exact .head _)
      rw [hr] at hi; cases hi
  intro fuel
  induction fuel with
  | zero => intro x y a w h hw; exact ⟨nil' x y h hw.1, hw.2⟩
  | succ fuel ih =>
    intro x y a w h hw
    refine ⟨fun hr => hw.1 (nil x y h hr), fun i hi => ?_⟩
    have h1 := hw.2 _ (ready_there c h hi)
    obtain ⟨o, ho, -⟩ := (ready_iff (by simpa using h.1)).1 hi
    have hil : i < l.length := by have := (Array.getElem?_eq_some_iff.1 ho).1; simpa using this
    have hs := h.set c hil
    unfold wpOp at h1 ⊢
    simp only [reorder_at c ho, ho, reix_wanted c ho] at h1 ⊢
    split
    · rename_i hwt
      rw [if_pos hwt] at h1
      rcases h1 with h1 | h1
      · exact .inl (Oper.wp_mono (fun a w hh => ih _ _ a w hs hh) h1)
      · exact .inr h1
    · rename_i hwt
      rw [if_neg hwt] at h1
      exact ih _ _ _ _ hs h1

/-- The tail's law at the listing s. -/
theorem wp_region_tailS {id : Nat} {a : Act} {w : World} (s : List Nat) (n : Nat) (C' : World → Prop) (Φ : Nat → List Value → Value → Nat → Nat → World → Prop) (ism : Nat → Bool) (hm : P.follows .mixedOrders = true) (hS : permB l s = true) (hB : chk (reorder l s).toArray (masks (reorder l s)) = true)
    (hT : chkTail (reorder l s) (masks (reorder l s)) n ism = true)
    (hC : ∀ w', Below w.heap.size w w' → C' w')
    (hΦ : ∀ i args v lo hi w w', Φ i args v lo hi w → Below w.heap.size w w' → Φ i args v lo hi w')
    (h : walkP P (reorder l s).toArray w (fun i w' => if lateB (reorder l s) (dm (masks (reorder l s))) n i then C' w' else ∃ e : Ext w, w' = e.world) Φ ism (dm (masks (reorder l s))) (tailW P (reorder l s).toArray C' Q ((reorder l s).drop n)) ((reorder l s).take n) 0 a [] []) : (Code.region id l.toArray true).wp P Q a w := by
  have c := permB_spec hS
  refine wp_region_any hm (any_perm c _ _ (Array.replicate (reorder l s).toArray.size false) _ _ ⟨by simp, by simp [reorder_len, c.len], fun i hi => ?_⟩ ?_)
  · simp only [Array.getD_eq_getD_getElem?, Array.getElem?_replicate]
    split <;> split <;> simp
  · have e : l.toArray.size = (reorder l s).toArray.size := by simp [reorder_len, c.len]
    rw [e]
    refine any_tail _ n C' Φ ism hB hT hC hΦ ?_
    refine walkP_cl (fun i w' hw' => ?_) _ 0 a [] [] h
    split at hw'
    · rename_i hl; rw [if_pos hl]; exact hw'
    · rename_i hl; rw [if_neg hl]; exact ⟨⟨w', hw'⟩, rfl⟩

end

end Go.Proofs.Ytkjpnpkmnpofgaa
