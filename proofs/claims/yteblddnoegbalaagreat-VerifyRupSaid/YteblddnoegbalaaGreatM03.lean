/- My texts Perm4, Ops, Queue, Lim, Cmp, Gp1, Gp2, Gp3, Str, merged. -/
import Derived.Test.YteblddnoegbalaaGreatM02
import Derived.Test.YteblddnoegbalaaGreatM01
import Derived.Test.YteblddnoegbalaaGreatM00
import Derived.Test.YteblddnoegbalaaGreatProg
import Derived.WalkKit
import Derived.Lib.Hide
import Derived.Deep.QuietTactic
import Derived.BigQuiet
import Derived.WalkSpells
import Derived.Lib.SliceRun
import Derived.MapKept
import Derived.Maps.OwnSet
import Derived.Maps.OwnOps
import Derived.Deep.AppendLies
import Derived.Lib.Bytealg

namespace Go.Proofs.YteblddnoegbalaaGreat
open Go.RowKit
def atIn (s : List Nat) (i : Nat) : Nat := s.idxOf i
def reix (s : List Nat) (o : Oper) : Oper := ⟨o.dst, o.op, o.type, o.pos, o.after.map fun e => ⟨atIn s e.on, e.ground⟩, o.guard.map fun p => (atIn s p.1, p.2)⟩
def reorder (l : List Oper) (s : List Nat) : List Oper := s.map fun i => reix s (l.getD i default)
def permB (l : List Oper) (s : List Nat) : Bool :=
  decide (s.length = l.length) && ((List.range l.length).all fun i => decide (atIn s i < l.length) && (s.getD (atIn s i) 0 == i) && decide (s.getD i 0 < l.length) && (atIn s (s.getD i 0) == i)) &&
  l.all fun o => (o.after.all fun e => decide (e.on < l.length)) && match o.guard with | some (g, _) => decide (g < l.length) | none => true
structure Perm (l : List Oper) (s : List Nat) : Prop where
  len : s.length = l.length
  lt : ∀ i, i < l.length → atIn s i < l.length
  back : ∀ i, i < l.length → s.getD (atIn s i) 0 = i
  lt' : ∀ i, i < l.length → s.getD i 0 < l.length
  back' : ∀ i, i < l.length → atIn s (s.getD i 0) = i
  edge : ∀ (i : Nat) (o : Oper), l[i]? = some o → ∀ e ∈ o.after, e.on < l.length
  guard : ∀ (i : Nat) (o : Oper), l[i]? = some o → ∀ g b, o.guard = some (g, b) → g < l.length
theorem permB_spec {l : List Oper} {s : List Nat} (h : permB l s = true) : Perm l s := by
  unfold permB at h
  simp only [Bool.and_eq_true, decide_eq_true_eq, List.all_eq_true, List.mem_range, beq_iff_eq, Array.all_eq_true_iff_forall_mem] at h
  obtain ⟨⟨h1, h2⟩, h3⟩ := h
  refine ⟨h1, fun i hi => (h2 i hi).1.1.1, fun i hi => (h2 i hi).1.1.2, fun i hi => (h2 i hi).1.2, fun i hi => (h2 i hi).2, fun i o ho => (h3 o (List.mem_of_getElem? ho)).1, fun i o ho g b hg => ?_⟩
  have := (h3 o (List.mem_of_getElem? ho)).2
  rw [hg] at this
  simpa using this
section
variable {P : Program} {l : List Oper} {s : List Nat} {Q : Exit → Act → World → Prop}
theorem reorder_len : (reorder l s).length = s.length := by simp [reorder]
theorem reorder_at (c : Perm l s) {i : Nat} {o : Oper} (ho : l.toArray[i]? = some o) : (reorder l s).toArray[atIn s i]? = some (reix s o) := by
  have ho' : l[i]? = some o := by simpa using ho
  have hi : i < l.length := (List.getElem?_eq_some_iff.1 ho').1
  have h1 := c.lt i hi
  have h2 := c.back i hi
  have hlt : atIn s i < s.length := by rw [c.len]; exact h1
  have h3 : s[atIn s i]? = some i := by
    rw [List.getD_eq_getElem?_getD] at h2
    rw [List.getElem?_eq_getElem hlt] at h2 ⊢
    simpa using h2
  simp [reorder, h3, ho']
theorem reorder_yield (c : Perm l s) {a : Array Value} {g : Nat} (hg : g < l.length) : yielded (reorder l s).toArray a (atIn s g) = yielded l.toArray a g := by
  obtain ⟨o, ho⟩ : ∃ o, l.toArray[g]? = some o := ⟨_, Array.getElem?_eq_getElem (by simpa using hg)⟩
  unfold yielded
  rw [reorder_at c ho, ho]
  rfl
theorem reix_wanted (c : Perm l s) {a : Array Value} {i : Nat} {o : Oper} (ho : l.toArray[i]? = some o) : Region.wanted (reix s o) (yielded (reorder l s).toArray a) = Region.wanted o (yielded l.toArray a) := by
  unfold Region.wanted
  cases hg : o.guard with
  | none => simp [reix, hg]
  | some p =>
    obtain ⟨g, b⟩ := p
    have := c.guard i o (by simpa using ho) g b hg
    simp [reix, hg, reorder_yield c this]
def SameL (l : List Oper) (s : List Nat) (x y : Array Bool) : Prop := x.size = l.length ∧ y.size = l.length ∧ ∀ i, i < l.length → x.getD i false = y.getD (atIn s i) false
theorem ready_iff {ops : Array Oper} {x : Array Bool} {i : Nat} (hx : x.size = ops.size) : i ∈ Region.ready .any ops x ↔ ∃ o, ops[i]? = some o ∧ x.getD i false = false ∧ ∀ e ∈ o.after, Region.binds .any e = true → x.getD e.on false = true := by
  unfold Region.ready
  simp only [List.mem_filter, List.mem_range, Bool.and_eq_true, Bool.not_eq_true']
  constructor
  · rintro ⟨h1, h2, h3⟩
    have ho := Array.getElem?_eq_getElem h1
    refine ⟨_, ho, ?_, ?_⟩
    · simp only [Array.getD_eq_getD_getElem?, Array.getElem?_eq_getElem (show i < x.size by omega), Option.getD_some] at h2 ⊢
      exact h2
    · rw [ho] at h3
      simp only [Option.map_some, Option.getD_some, Array.all_eq_true_iff_forall_mem, Bool.or_eq_true, Bool.not_eq_true'] at h3
      intro e he hb
      rcases h3 e he with h4 | h4
      · rw [hb] at h4; cases h4
      · exact h4
  · rintro ⟨o, ho, h2, h3⟩
    have h1 : i < ops.size := (Array.getElem?_eq_some_iff.1 ho).1
    refine ⟨h1, ?_, ?_⟩
    · simp only [Array.getD_eq_getD_getElem?, Array.getElem?_eq_getElem (show i < x.size by omega), Option.getD_some] at h2 ⊢
      exact h2
    · rw [ho]
      simp only [Option.map_some, Option.getD_some, Array.all_eq_true_iff_forall_mem, Bool.or_eq_true, Bool.not_eq_true']
      intro e he
      cases hb : Region.binds .any e with
      | false => exact .inl rfl
      | true => exact .inr (h3 e he hb)
theorem ready_there (c : Perm l s) {x y : Array Bool} (h : SameL l s x y) {i : Nat} (hi : i ∈ Region.ready .any l.toArray x) : atIn s i ∈ Region.ready .any (reorder l s).toArray y := by
  obtain ⟨hx, hy, hxy⟩ := h
  obtain ⟨o, ho, h1, h2⟩ := (ready_iff (by simpa using hx)).1 hi
  have hil : i < l.length := by have := (Array.getElem?_eq_some_iff.1 ho).1; simpa using this
  refine (ready_iff (by simp [reorder_len, c.len, hy])).2 ⟨_, reorder_at c ho, by rw [← hxy i hil]; exact h1, fun e he hb => ?_⟩
  simp only [reix, Array.mem_map] at he
  obtain ⟨e', he', rfl⟩ := he
  have := c.edge i o (by simpa using ho) e' he'
  rw [← hxy _ this]
  exact h2 e' he' hb
theorem ready_back (c : Perm l s) {x y : Array Bool} (h : SameL l s x y) {j : Nat} (hj : j ∈ Region.ready .any (reorder l s).toArray y) : ∃ i, i ∈ Region.ready .any l.toArray x := by
  obtain ⟨hx, hy, hxy⟩ := h
  obtain ⟨o', ho', h1, h2⟩ := (ready_iff (by simp [reorder_len, c.len, hy])).1 hj
  have hjl : j < l.length := by have := (Array.getElem?_eq_some_iff.1 ho').1; simpa [reorder_len, c.len] using this
  have hil := c.lt' j hjl
  obtain ⟨o, ho⟩ : ∃ o, l.toArray[s.getD j 0]? = some o := ⟨_, Array.getElem?_eq_getElem (by simpa using hil)⟩
  have he := reorder_at c ho
  rw [c.back' j hjl, ho'] at he
  obtain rfl := Option.some.inj he
  refine ⟨s.getD j 0, (ready_iff (by simpa using hx)).2 ⟨o, ho, by rw [hxy _ hil, c.back' j hjl]; exact h1, fun e he hb => ?_⟩⟩
  have := c.edge _ o (by simpa using ho) e he
  rw [hxy _ this]
  exact h2 ⟨atIn s e.on, e.ground⟩ (by simp only [reix, Array.mem_map]; exact ⟨e, he, rfl⟩) hb
theorem SameL.set (c : Perm l s) {x y : Array Bool} (h : SameL l s x y) {i : Nat} (hi : i < l.length) : SameL l s (x.setIfInBounds i true) (y.setIfInBounds (atIn s i) true) := by
  obtain ⟨hx, hy, hxy⟩ := h
  have h1 := c.lt i hi
  refine ⟨by simpa using hx, by simpa using hy, fun k hk => ?_⟩
  rw [getD_set (by omega), getD_set (by omega)]
  by_cases hki : k = i
  · subst hki; simp
  · rw [if_neg hki, if_neg (fun e => hki (by rw [← c.back k hk, ← c.back i hi, e]))]
    exact hxy k hk
theorem any_perm (c : Perm l s) : ∀ (fuel : Nat) (x y : Array Bool) (a : Act) (w : World), SameL l s x y → wpAny P .any (reorder l s).toArray Q fuel y a w → wpAny P .any l.toArray Q fuel x a w := by
  have nil : ∀ x y, SameL l s x y → Region.ready .any l.toArray x = [] → Region.ready .any (reorder l s).toArray y = [] := fun x y h hr => by
    cases hy : Region.ready .any (reorder l s).toArray y with
    | nil => rfl
    | cons j js =>
      obtain ⟨i, hi⟩ := ready_back c h (j := j) (by rw [hy]; exact .head _)
      rw [hr] at hi; cases hi
  have nil' : ∀ x y, SameL l s x y → Region.ready .any (reorder l s).toArray y = [] → Region.ready .any l.toArray x = [] := fun x y h hr => by
    cases hx : Region.ready .any l.toArray x with
    | nil => rfl
    | cons i is =>
      have hi := ready_there c h (i := i) (by rw [hx]; exact .head _)
      rw [hr] at hi; cases hi
  intro fuel
  induction fuel with
  | zero => intro x y a w h hw; exact ⟨nil' x y h hw.1, hw.2⟩
  | succ fuel ih =>
    intro x y a w h hw
    refine ⟨fun hr => hw.1 (nil x y h hr), fun i hi => ?_⟩
    have h1 := hw.2 _ (ready_there c h hi)
    obtain ⟨o, ho, -⟩ := (ready_iff (by simpa using h.1)).1 hi
    have hil : i < l.length := by have := (Array.getElem?_eq_some_iff.1 ho).1; simpa using this
    have hs := h.set c hil
    unfold wpOp at h1 ⊢
    simp only [reorder_at c ho, ho, reix_wanted c ho] at h1 ⊢
    split
    · rename_i hwt
      rw [if_pos hwt] at h1
      rcases h1 with h1 | h1
      · exact .inl (Oper.wp_mono (fun a w hh => ih _ _ a w hs hh) h1)
      · exact .inr h1
    · rename_i hwt
      rw [if_neg hwt] at h1
      exact ih _ _ _ _ hs h1
end
theorem newsOf {w : World} {g : Nat} {c : List Value} {t : TypeId} (h : Blk w g c t) : ∀ j u, c[j]? = some u → w.cell? ((⟨g, 0, none⟩ : Addr).add j) = some u := by
  have := World.news_of_block (w := w) (B := g) (cs := c.toArray) (t := t) (fr := (0, 0)) h
  simpa using this
section
variable {P : Program} {ops : Array Oper} {w0 : World} {C' : World → Prop} {Φ : Nat → List Value → Value → Nat → Nat → World → Prop} {ism : Nat → Bool} {D : Nat → Nat → Bool} {E : Act → World → Prop} {a : Act} {o : Oper} {rest : List Oper} {i n : Nat} {F : List (Nat × (World → Prop))} {I : List (Nat × Nat)} {l : List Oper} {m : List Nat}
theorem walkP_head (hl : lateB l (dm m) n i = false) (hi : ism i = false) (hc : calm o = true) (hw : Region.wanted o (yielded ops a.tmps) = true)
    (h : ∀ K : Act → Prop, (∀ a, walkP P ops w0 (fun i w' => if lateB l (dm m) n i then C' w' else ∃ e : Ext w0, w' = e.world) Φ ism D E rest (i + 1) a F I → K a) → o.quiet P a (fun w' => ∃ e : Ext w0, w' = e.world) K) :
    walkP P ops w0 (fun i w' => if lateB l (dm m) n i then C' w' else ∃ e : Ext w0, w' = e.world) Φ ism D E (o :: rest) i a F I :=
  walkP_calm hi hc hw fun K hK => by
    have e : (fun w' => if lateB l (dm m) n i then C' w' else ∃ e : Ext w0, w' = e.world) = fun w' => ∃ e : Ext w0, w' = e.world := by
      funext w'; rw [if_neg (by rw [hl]; exact Bool.false_ne_true)]
    show o.quiet P a (fun w' => if lateB l (dm m) n i then C' w' else ∃ e : Ext w0, w' = e.world) K
    rw [e]
    exact h K hK
theorem walkP_late (hl : lateB l (dm m) n i = true) (hi : ism i = false) (hc : calm o = true) (hw : Region.wanted o (yielded ops a.tmps) = true)
    (h : ∀ K : Act → Prop, (∀ a, walkP P ops w0 (fun i w' => if lateB l (dm m) n i then C' w' else ∃ e : Ext w0, w' = e.world) Φ ism D E rest (i + 1) a F I → K a) → o.quiet P a C' K) :
    walkP P ops w0 (fun i w' => if lateB l (dm m) n i then C' w' else ∃ e : Ext w0, w' = e.world) Φ ism D E (o :: rest) i a F I :=
  walkP_calm hi hc hw fun K hK => by
    have e : (fun w' => if lateB l (dm m) n i then C' w' else ∃ e : Ext w0, w' = e.world) = C' := by
      funext w'; rw [if_pos hl]
    show o.quiet P a (fun w' => if lateB l (dm m) n i then C' w' else ∃ e : Ext w0, w' = e.world) K
    rw [e]
    exact h K hK
end
structure KeepB (w : World) (b : Nat) where
  world : World
  cell : ∀ o, world.cell? ⟨b, o, none⟩ = w.cell? ⟨b, o, none⟩
instance instKeepB (w : World) (b : Nat) : Nonempty (KeepB w b) := ⟨⟨w, fun _ => rfl⟩⟩
def QRow (base : Nat) (w : World) (v : Value) (l : List Int) : Prop :=
  Fits l ∧ ((v = .slice none 0 0 ∧ l = []) ∨
    ∃ g off cap cur, v = .slice (some ⟨g, off, none⟩) l.length cap ∧ base ≤ g ∧ w.heap[g]? = some (.cells cur 3 (0, 0)) ∧ l.length ≤ cap ∧ cap ≤ maxLen ∧ off + cap ≤ cur.size ∧ ∀ i, i < l.length → cur[off + i]? = some (.int .i64 (ix l i)))
theorem QRow.nil (base : Nat) (w : World) : QRow base w (.slice none 0 0) [] := ⟨fun i => by simp [ix], .inl ⟨rfl, rfl⟩⟩
theorem QRow.kept {base : Nat} {w w' : World} {v : Value} {l : List Int} (h : QRow base w v l) (hs : ∀ i, base ≤ i → i < w.heap.size → v.ownBlock = some i → w'.heap[i]? = w.heap[i]?) : QRow base w' v l := by
  refine ⟨h.1, ?_⟩
  rcases h.2 with h2 | ⟨g, off, cap, cur, rfl, hb, hg, r⟩
  · exact .inl h2
  · exact .inr ⟨g, off, cap, cur, rfl, hb, (hs g hb (Array.getElem?_eq_some_iff.1 hg).1 rfl).trans hg, r⟩
theorem ix_last (l : List Int) (x : Int) (i : Nat) (hi : i < (l ++ [x]).length) : ix (l ++ [x]) i = if i < l.length then ix l i else x := by
  simp only [List.length_append, List.length_singleton] at hi
  split
  · rename_i h; simp [ix, List.getElem?_append_left h]
  · obtain rfl : i = l.length := by omega
    simp [ix]
theorem run_appendQ (base : Nat) (T ty : TypeId) (hT : Tryz.prog.underlying T = some (.slice 3)) (w : World) (v : Value) (l : List Int) (h : QRow base w v l) (g0 c : Nat) (x : Int) (hb : Blk w g0 [.int .i64 x] 3) (hx : InI x)
    (hlen : (l.length + 1) * 8 ≤ 140737488351232) (hbase : base ≤ w.heap.size) :
    ∃ v' w', (Builtin.append_ #[T, T] ty #[v, .slice (some ⟨g0, 0, none⟩) 1 c]).run Tryz.prog w = .ok v' w' ∧ QRow base w' v' (l ++ [x]) ∧ w.grownBy w' v.ownBlock ∧ (v'.ownBlock = v.ownBlock ∨ v'.ownBlock = some w.heap.size) := by
  have hi := infoI
  obtain ⟨i, hi, he⟩ := Option.map_eq_some_iff.1 hi
  simp only [Prod.mk.injEq] at he
  obtain ⟨hz, hs, hby⟩ := he
  have hn := newsOf hb
  have hfit := h.1.push hx
  have grow : ∀ (cur : Array Value) (cap : Nat), cur.size = cap → cap ≤ maxLen → l.length + 1 ≤ cap → (∀ i, i < l.length → cur[i]? = some (.int .i64 (ix l i))) → cur[l.length]? = some (.int .i64 x) →
      QRow base (w.drew.alloc (.cells cur 3)) (.slice (some ⟨w.heap.size, 0, none⟩) (l.length + 1) cap) (l ++ [x]) ∧ ∀ row, w.grownBy (w.drew.alloc (.cells cur 3)) row := by
    intro cur cap h1 h2 h3 h4 h5
    refine ⟨⟨hfit, .inr ⟨w.heap.size, 0, cap, cur, by simp, hbase, heap_alloc_new w.drew _, by simpa using h3, h2, by omega, fun j hj => ?_⟩⟩, fun row => ⟨rfl, rfl, rfl, by simp, fun k hk _ => Below.heap_alloc w.drew _ _ hk⟩⟩
    rw [ix_last _ _ _ hj, Nat.zero_add]
    split
    · rename_i hlt; exact h4 j hlt
    · simp only [List.length_append, List.length_singleton] at hj
      obtain rfl : j = l.length := by omega
      exact h5
  have zc : ∀ n, (Builtin.zeroCells (Value.int .i64 0).cells n).size = n := fun n => by simp [Builtin.zeroCells, Value.cells]
  rcases h.2 with ⟨rfl, rfl⟩ | ⟨g, off, cap, cur, rfl, hbg, hg, hnc, hcm, hcs, hcell⟩
  · have hr := run_append_nil (P := Tryz.prog) w T ty 3 i _ hT hi hz ⟨g0, 0, none⟩ 1 c [.int .i64 x] (by rw [hs]; rfl) hn (by omega) (by omega) (by rw [hby]; omega)
    have hge := grownCap_ge w 1 0 3
    obtain ⟨q1, q2⟩ := grow (#[Value.int .i64 x] ++ Builtin.zeroCells (Value.int .i64 0).cells (grownCap w 1 0 3 - 1)) (grownCap w 1 0 3) (by simp only [Array.size_append, List.size_toArray, List.length_cons, List.length_nil, zc]; omega) (grownCap_le_maxLen w 1 0 3 (by unfold maxLen; omega)) hge (fun i hi => absurd hi (Nat.not_lt_zero _)) (by rw [Array.getElem?_append_left (by simp)]; rfl)
    exact ⟨_, _, hr, q1, q2 _, .inr rfl⟩
  · by_cases hroom : l.length + 1 ≤ cap
    · have hf := run_firstCells_some (P := Tryz.prog) w i.size 1 ⟨g0, 0, none⟩ 1 c [.int .i64 x] (by rw [hs]; rfl) hn
      have hst := run_storeCells_at Tryz.prog g (off + l.length) 3 [.int .i64 x] 0 cur w hg (by simp only [List.length_singleton]; omega) (by simp [Value.oneCell'])
      simp only [Nat.add_zero, List.length_singleton] at hst
      refine ⟨.slice (some ⟨g, off, none⟩) (l.length + 1) cap, w.setRow g (cur.toList.take (off + l.length) ++ [Value.int .i64 x] ++ cur.toList.drop (off + l.length + 1)).toArray, ?_, ⟨hfit, .inr ⟨g, off, cap, (cur.toList.take (off + l.length) ++ [Value.int .i64 x] ++ cur.toList.drop (off + l.length + 1)).toArray, by simp, hbg, setRow_heap w g cur _ 3 _ hg, by simpa using hroom, hcm, ?_, fun j hj => ?_⟩⟩, ⟨rfl, rfl, rfl, by simp, fun k _ hk => setRow_other w g k _ (fun e => hk (by simp [Value.ownBlock, e]))⟩, .inl rfl⟩
      · have hadd : (⟨g, off, none⟩ : Addr).add (l.length * i.size) = ⟨g, off + l.length, none⟩ := by rw [hs]; unfold Addr.add; split <;> simp_all
        simp [Builtin.append_, run_underlying hT, sizeOf, typeInfo, hi, Builtin.lenOf, hroom, hf, hadd, hst]
      · simp only [List.size_toArray, List.length_append, List.length_take, List.length_drop, Array.length_toList, List.length_singleton]
        omega
      · rw [ix_last _ _ _ hj]
        simp only [List.length_append, List.length_singleton] at hj
        split
        · rename_i hlt
          rw [← hcell j hlt]
          simp only [List.getElem?_toArray, List.append_assoc]
          rw [List.getElem?_append_left (by simp; omega), List.getElem?_take_of_lt (by omega)]
          simp
        · obtain rfl : j = l.length := by omega
          simp only [List.getElem?_toArray, List.append_assoc]
          rw [List.getElem?_append_right (by simp; omega)]
          have : min (off + l.length) cur.size = off + l.length := by omega
          simp [this]
    · have holds : ∀ j u, ((List.range l.length).map (fun i => Value.int .i64 (ix l i)))[j]? = some u → w.cell? ((⟨g, off, none⟩ : Addr).add j) = some u := by
        intro j u hu
        have hadd : (⟨g, off, none⟩ : Addr).add j = ⟨g, off + j, none⟩ := by unfold Addr.add; split <;> simp_all
        have hj : j < l.length := by
          have := (List.getElem?_eq_some_iff.1 hu).1; simpa using this
        rw [hadd, cell_of_row w g (off + j) cur 3 (0, 0) hg, hcell j hj]
        simpa [hj] using hu
      have hr := run_append_grow (P := Tryz.prog) w T ty 3 i _ hT hi hz ⟨g, off, none⟩ l.length cap ((List.range l.length).map (fun i => Value.int .i64 (ix l i))) (by rw [hs]; simp) holds ⟨g0, 0, none⟩ 1 c [.int .i64 x] (by rw [hs]; rfl) hn (by omega) (by omega) (growslice_fits (by omega) (by rw [hby]; omega))
      have hge := grownCap_ge w (l.length + 1) cap 3
      obtain ⟨q1, q2⟩ := grow (((List.range l.length).map (fun i => Value.int .i64 (ix l i))).toArray ++ [Value.int .i64 x].toArray ++ Builtin.zeroCells (Value.int .i64 0).cells (grownCap w (l.length + 1) cap 3 - (l.length + 1))) (grownCap w (l.length + 1) cap 3) (by simp only [Array.size_append, List.size_toArray, List.length_cons, List.length_nil, List.length_map, List.length_range, zc]; omega) (grownCap_le_maxLen w (l.length + 1) cap 3 (by unfold maxLen; omega)) hge
        (fun j hj => by rw [Array.getElem?_append_left (by simp; omega), Array.getElem?_append_left (by simp; omega)]; simp [hj]) (by rw [Array.getElem?_append_left (by simp), Array.getElem?_append_right (by simp)]; simp)
      exact ⟨_, _, hr, q1, q2 _, .inr rfl⟩
theorem wp_appendQ {o : Oper} {a : Act} {w : World} {K : Act → World → Prop} {Q : Exit → Act → World → Prop} (s x : Operand) (T : TypeId) (hT : Tryz.prog.underlying T = some (.slice 3))
    (ho : o.op = .call { callee := .builtin .append, args := #[s, x], argTypes := #[T, T] }) (base : Nat) (v : Value) (l : List Int) (k : Int) (hs : a.eval s = v) (h : QRow base w v l)
    (g0 c : Nat) (hx : a.eval x = .slice (some ⟨g0, 0, none⟩) 1 c) (hb : Blk w g0 [.int .i64 k] 3) (hk : InI k) (hlen : (l.length + 1) * 8 ≤ 140737488351232) (hbase : base ≤ w.heap.size)
    (hK : ∀ v' w', QRow base w' v' (l ++ [k]) → w.grownBy w' v.ownBlock → (v'.ownBlock = v.ownBlock ∨ v'.ownBlock = some w.heap.size) → K (a.put o.dst v') w') : o.wp Tryz.prog a w K Q := by
  obtain ⟨v', w', hr, h2, h3, h4⟩ := run_appendQ base T o.type hT w v l h g0 c k hb hk hlen hbase
  unfold Oper.wp execOp
  simp only [ho, resolve, invoke, builtin, Sem.run_bind, Sem.run_pure, Result.andThen_ok, List.map_toArray, List.map_cons, List.map_nil, hs, hx, hr]
  exact hK v' w' h2 h3 h4
theorem wpList_appendQ {ops : Array Oper} {rest : List Oper} {o : Oper} {a : Act} {w : World} {Q : Exit → Act → World → Prop} (hgd : o.guard = none) (s x : Operand) (T : TypeId) (hT : Tryz.prog.underlying T = some (.slice 3))
    (ho : o.op = .call { callee := .builtin .append, args := #[s, x], argTypes := #[T, T] }) (base : Nat) (v : Value) (l : List Int) (k : Int) (hs : a.eval s = v) (h : QRow base w v l)
    (g0 c : Nat) (hx : a.eval x = .slice (some ⟨g0, 0, none⟩) 1 c) (hb : Blk w g0 [.int .i64 k] 3) (hk : InI k) (hlen : (l.length + 1) * 8 ≤ 140737488351232) (hbase : base ≤ w.heap.size)
    (hK : ∀ v' w', QRow base w' v' (l ++ [k]) → w.grownBy w' v.ownBlock → (v'.ownBlock = v.ownBlock ∨ v'.ownBlock = some w.heap.size) → wpList Tryz.prog ops Q rest (a.put o.dst v') w') : wpList Tryz.prog ops Q (o :: rest) a w :=
  wpList_plain hgd fun _ hK' => wp_appendQ s x T hT ho base v l k hs h g0 c hx hb hk hlen hbase fun v' w' h2 h3 h4 => hK' _ _ (hK v' w' h2 h3 h4)
theorem QRow.tail {base : Nat} {w : World} {g off n cap : Nat} {x : Int} {l : List Int} (h : QRow base w (.slice (some ⟨g, off, none⟩) n cap) (x :: l)) : QRow base w (.slice (some ⟨g, off + 1, none⟩) (n - 1) (cap - 1)) l := by
  refine ⟨fun i => by have := h.1 (i + 1); simpa [ix] using this, ?_⟩
  rcases h.2 with ⟨e, _⟩ | ⟨g', off', cap', cur, e, hb, hg, h1, h2, h3, h4⟩
  · cases e
  · simp only [Value.slice.injEq, Option.some.injEq, Addr.mk.injEq, and_true] at e
    obtain ⟨⟨rfl, rfl⟩, rfl, rfl⟩ := e
    refine .inr ⟨g, off + 1, cap - 1, cur, by simp, hb, hg, by simp only [List.length_cons] at h1; omega, by omega, by simp only [List.length_cons] at h1; omega, fun i hi => ?_⟩
    have := h4 (i + 1) (by simp; omega)
    rw [show off + 1 + i = off + (i + 1) by omega, this]
    simp [ix]
def Same (lo hi : Nat) (S : List Nat) (w w' : World) : Prop := ∀ i, lo ≤ i → i < hi → i ∉ S → w'.heap[i]? = w.heap[i]?
structure Lim (n : Nat) (S : List Nat) (w w' : World) : Prop where
  os : w'.os = w.os
  tape : w'.tape = w.tape
  output : w'.output = w.output
  size : w.heap.size ≤ w'.heap.size
  block : ∀ i, i < n → i ∉ S → w'.heap[i]? = w.heap[i]?
theorem Lim.refl (n : Nat) (S : List Nat) (w : World) : Lim n S w w := ⟨rfl, rfl, rfl, Nat.le_refl _, fun _ _ _ => rfl⟩
theorem Lim.trans {n : Nat} {S : List Nat} {a b c : World} (h : Lim n S a b) (k : Lim n S b c) : Lim n S a c := ⟨k.os.trans h.os, k.tape.trans h.tape, k.output.trans h.output, Nat.le_trans h.size k.size, fun i hi hs => (k.block i hi hs).trans (h.block i hi hs)⟩
theorem Lim.mono {n m : Nat} {S S' : List Nat} {a b : World} (h : Lim n S a b) (hm : m ≤ n) (hs : ∀ i ∈ S, i < m → i ∈ S') : Lim m S' a b := ⟨h.os, h.tape, h.output, h.size, fun i hi hn => h.block i (by omega) (fun hh => hn (hs i hh hi))⟩
theorem Lim.of_below {n m : Nat} {S : List Nat} {a b : World} (h : Below n a b) (hm : m ≤ n) : Lim m S a b := ⟨h.os, h.tape, h.output, h.size, fun i hi _ => h.block i (by omega)⟩
theorem Lim.of_grown {n b : Nat} {S : List Nat} {w w' : World} (h : w.grownBy w' (some b)) (hb : b ∈ S ∨ n ≤ b) (hn : n ≤ w.heap.size) : Lim n S w w' :=
  ⟨h.os, h.tape, h.output, h.size, fun i hi hs => h.block i (by omega) (fun e => by cases e; rcases hb with hb | hb; exact hs hb; omega)⟩
theorem Lim.below {n : Nat} {S : List Nat} {w w' : World} (h : Lim n S w w') (hs : ∀ i ∈ S, n ≤ i) : Below n w w' := ⟨h.os, h.tape, h.output, h.size, fun i hi => h.block i hi (fun hh => by have := hs i hh; omega)⟩
theorem Lim.same {n lo hi : Nat} {S : List Nat} {w w' : World} (h : Lim n S w w') (hh : hi ≤ n) : Same lo hi S w w' := fun i _ h2 h3 => h.block i (by omega) h3
theorem Lim.setCell {n b o : Nat} {S : List Nat} {w : World} (v : Value) (hb : b ∈ S ∨ n ≤ b) : Lim n S w (w.setCell ⟨b, o, none⟩ v) :=
  ⟨rfl, rfl, rfl, by simp [World.setCell], fun i hi hs => Below.heap_setCell _ _ _ _ (by rintro rfl; rcases hb with hb | hb; exact hs hb; omega)⟩
def mapI (F : Int → Int) : Int → Option Value := fun x => if F x = 0 then none else some (.int .i64 (F x))
def setI (F : Int → Int) (x v : Int) : Int → Int := fun y => if y = x then v else F y
theorem mapI_set {F : Int → Int} {x v : Int} (hv : v ≠ 0) : mapI (setI F x v) = upd (mapI F) x (some (.int .i64 v)) := by
  funext y; unfold mapI setI upd; split <;> simp_all
theorem Same.refl (lo hi : Nat) (S : List Nat) (w : World) : Same lo hi S w w := fun _ _ _ _ => rfl
def RulesAt (w : World) (v : Value) (l : List GR) (vh vb vw : Nat → Value) : Prop :=
  Rows w v 6 88 l.length (fun i => ruleCell (ixR l i) (vh i) (vb i) (vw i)) ∧ ∀ i, i < l.length → RuleSl w (ixR l i) (vh i) (vb i) (vw i)
theorem isNaN_any (x : Int) (w : World) : Calls Tryz.prog 148 #[.int .i64 x] w fun e w' => e = .returned (.bool false) ∧ w = w' := by
  go_enter Tryz.func148, Tryz.ntmps148
  go_wp2
  go_ret
  exact ⟨rfl, rfl⟩
def cmpI (x y : Int) : Int := if x < y then -1 else if y < x then 1 else 0
theorem compare_any (x y : Int) (w : World) : Calls Tryz.prog 99 #[.int .i64 x, .int .i64 y] w fun e w' => e = .returned (.int .i64 (cmpI x y)) ∧ w = w' := by
  go_enter Tryz.func99, Tryz.ntmps99
  go_wp2_with (go_at_call 148; refine (isNaN_any _ _).mono ?_; rintro e w' ⟨rfl, rfl⟩)
  all_goals
    go_ret
    simp [cmpI, *]
  all_goals omega
def orI (x y : Int) : Int := if x = 0 then y else x
theorem or_any (x y : Int) (b : Nat) (w : World) (h0 : w.cell? ⟨b, 0, none⟩ = some (.int .i64 x)) (h1 : w.cell? ⟨b, 1, none⟩ = some (.int .i64 y)) :
    Calls Tryz.prog 159 #[.slice (some ⟨b, 0, none⟩) 2 2] w fun e w' => e = .returned (.int .i64 (orI x y)) ∧ w = w' := by
  go_enter Tryz.func159, Tryz.ntmps159
  go_wp2
  go_loop [8] (fun i => ∃ k : Nat, k ≤ 2 ∧ i = .int .i64 k ∧ (1 ≤ k → x = 0) ∧ (2 ≤ k → y = 0)) (fun i => 2 - (intOf i).toNat)
  case atStart => exact ⟨0, by omega, rfl, by intro h; omega, by intro h; omega⟩
  case round =>
    obtain ⟨k, hk, rfl, g0, g1⟩ := hrel
    obtain rfl | rfl | rfl : k = 0 ∨ k = 1 ∨ k = 2 := by omega
    · by_cases hx : x = 0
      · subst hx
        go_wp2
        go_round
        case rel => exact ⟨1, by omega, rfl, by intro _; trivial, by intro h; omega⟩
        case measure => simp [intOf]
      · have hxb : (x == 0) = false := by simp [hx]
        have hxc : (x != 0) = true := by simp [hx]
        go_wp2
        go_ret
        exact ⟨ret_int (by simp [orI, hx]), rfl⟩
    · obtain rfl := g0 (by omega)
      clear g0 g1
      by_cases hy : y = 0
      · subst hy
        go_wp2
        go_round
        case rel => exact ⟨2, by omega, rfl, by intro _; trivial, by intro _; trivial⟩
        case measure => simp [intOf]
      · have hxb : (y == 0) = false := by simp [hy]
        have hxc : (y != 0) = true := by simp [hy]
        go_wp2
        go_ret
        exact ⟨ret_int (by simp [orI]), rfl⟩
    · obtain rfl := g0 (by omega)
      obtain rfl := g1 (by omega)
      go_wp2
      go_ret
      exact ⟨ret_int (by simp [orI]), rfl⟩
theorem atom_any (x : Int) (w : World) (h : -4611686018427387904 ≤ x) (h' : x ≤ 4611686018427387904) : Calls Tryz.prog 160 #[.int .i64 x] w fun e w' => e = .returned (.int .i64 x.natAbs) ∧ w = w' := by
  go_enter Tryz.func160, Tryz.ntmps160
  go_wp2
  all_goals
    go_ret
    refine ⟨?_, rfl⟩
    simp
    omega
def ordI (x y : Int) : Int := orI (cmpI x.natAbs y.natAbs) (cmpI y x)
theorem order_any (x y : Int) (w : World) (h : -4611686018427387904 ≤ x ∧ x ≤ 4611686018427387904) (g : -4611686018427387904 ≤ y ∧ y ≤ 4611686018427387904) :
    Calls Tryz.prog 111 #[.int .i64 x, .int .i64 y] w fun e w' => e = .returned (.int .i64 (ordI x y)) ∧ Below w.heap.size w w' := by
  go_enter Tryz.func111, Tryz.ntmps111
  go_wp2_with (first
   | (go_at_call 160; refine (atom_any _ _ (by omega) (by omega)).mono ?_; rintro e w' ⟨rfl, rfl⟩)
   | (go_at_call 99; refine (compare_any _ _ _).mono ?_; rintro e w' ⟨rfl, rfl⟩)
   | (go_at_call 159; refine (or_any (cmpI x.natAbs y.natAbs) (cmpI y x) _ _ (by go_simp) (by go_simp)).mono ?_; rintro e w' ⟨rfl, rfl⟩))
  go_ret
  exact ⟨rfl, (Below.refl _ _).alloc (Nat.le_refl _) _⟩
def litB (x n : Int) : Bool := decide (x ≠ 0 ∧ -n ≤ x ∧ x ≤ n)
theorem literal_any (x n : Int) (w : World) (h : 0 ≤ n ∧ n ≤ 4611686018427387904) :
    Calls Tryz.prog 110 #[.int .i64 x, .int .i64 n] w fun e w' => e = .returned (.bool (litB x n)) ∧ w = w' := by
  go_enter Tryz.func110, Tryz.ntmps110
  by_cases h0 : x = 0
  · go_wp2
    go_ret
    simp [litB, h0]
  · have hb : (x != 0) = true := by simp [h0]
    go_wp2
    all_goals
      go_ret
      refine ⟨?_, rfl⟩
      simp [litB, h0]
      try omega
def okAt (l : List Int) (n : Int) (i : Nat) : Bool := litB (ix l i) n && (i == 0 || decide (ordI (ix l (i - 1)) (ix l i) < 0))
def orderedB (l : List Int) (n : Int) : Bool := allR l.length (okAt l n)
theorem litB_bd {x n : Int} (h : litB x n = true) (hn : 0 ≤ n ∧ n ≤ 4611686018427387904) : -4611686018427387904 ≤ x ∧ x ≤ 4611686018427387904 := by
  simp [litB] at h; omega
theorem ordered_any (v : Value) (l : List Int) (n : Int) (w : World) (h : Ints w v l) (hn : 0 ≤ n ∧ n ≤ 4611686018427387904) :
    Calls Tryz.prog 71 #[v, .int .i64 n] w fun e w' => e = .returned (.bool (orderedB l n)) ∧ Below w.heap.size w w' := by
  obtain ⟨a, cap, rfl, hle, hB, -, hcell⟩ := h.form
  clear h
  go_enter Tryz.func71, Tryz.ntmps71
  go_wp2
  go_loopw [9] (fun i wr => ∃ k : Nat, k ≤ l.length ∧ i = .int .i64 k ∧ (∀ j, j < k → okAt l n j = true) ∧ Below w.heap.size w wr) (fun i _ => l.length - (intOf i).toNat)
  case atStart => exact ⟨0, by omega, rfl, by intro j hj; omega, Below.refl _ _⟩
  case round =>
    obtain ⟨k, hk, rfl, hok, hb⟩ := hrel
    have HOK := Lib.hid hok
    clear hok
    by_cases hlt : k < l.length
    · obtain ⟨b, off, rfl, hbl, hc⟩ := hcell (by omega)
      have hk1 : wr.cell? ⟨b, off + k, none⟩ = some (.int .i64 (ix l k)) := (bcell hb _ _ hbl).trans (hc k hlt)
      have hk2 : wr.cell? ⟨b, off + (k - 1), none⟩ = some (.int .i64 (ix l (k - 1))) := (bcell hb _ _ hbl).trans (hc (k - 1) (by omega))
      clear hc hcell
      cases hl : litB (ix l k) n with
      | false =>
        go_wp2_with (go_at_call 110; refine (literal_any _ _ _ (by omega)).mono ?_; rintro e w' ⟨rfl, rfl⟩)
        go_ret
        exact ⟨ret_bool (allR_false k hlt (by simp [okAt, hl])).symm, hb⟩
      | true =>
        have b1 := litB_bd hl hn
        by_cases hk0 : k = 0
        · have hfin : okAt l n k = true := by unfold okAt; rw [hl]; simp [hk0]
          have HF := Lib.hid hfin
          have hkp : ¬ (0 : Int) < (k : Int) := by omega
          clear hfin hk0
          go_wp2_with (go_at_call 110; refine (literal_any _ _ _ (by omega)).mono ?_; rintro e w' ⟨rfl, rfl⟩)
          go_roundw
          case rel => exact ⟨k + 1, by omega, by go_num, lt_succ_all HOK.out HF.out, hb⟩
          case measure => simp [intOf]; omega
        · have hkp : (0 : Int) < (k : Int) := by omega
          have hkn : (0 : Int) ≤ (k : Int) - 1 := by omega
          have hkm : ((k : Int) - 1).toNat = k - 1 := by omega
          have b2 := litB_bd (x := ix l (k - 1)) (n := n) (by have := HOK.out (k - 1) (by omega); simp [okAt] at this; exact this.1) hn
          have hfin : okAt l n k = decide (ordI (ix l (k - 1)) (ix l k) < 0) := by simp [okAt, hl, hk0]
          have HF := Lib.hid hfin
          clear hfin
          by_cases ho : ordI (ix l (k - 1)) (ix l k) < 0
          all_goals
            go_wp2_with (first
              | (go_at_call 110; refine (literal_any _ _ _ (by omega)).mono ?_; rintro e w' ⟨rfl, rfl⟩)
              | (go_at_call 111; refine (order_any _ _ _ (by omega) (by omega)).mono ?_; rintro e w1 ⟨rfl, hb1⟩))
          · go_roundw
            case rel => exact ⟨k + 1, by omega, by go_num, lt_succ_all HOK.out (by rw [HF.out]; simp [ho]), hb.trans (hb1.mono hb.size)⟩
            case measure => simp [intOf]; omega
          · go_ret
            exact ⟨ret_bool (allR_false k hlt (by rw [HF.out]; simp [ho])).symm, hb.trans (hb1.mono hb.size)⟩
    · have HL : Go.RowKit.Hid (k = l.length) := Lib.hid (by omega)
      go_wp2
      go_ret
      exact ⟨ret_bool (allR_true (by rw [← HL.out]; exact HOK.out)).symm, hb⟩
def IsMin (l : List Int) (m : Int) : Prop := (∀ i, i < l.length → m ≤ ix l i) ∧ ∃ i, i < l.length ∧ m = ix l i
def MinPost (l : List Int) (w : World) (e : Ending) (w' : World) : Prop := ∃ m : Int, e = .returned (.int .i64 m) ∧ IsMin l m ∧ w = w'
theorem min_any (v : Value) (l : List Int) (w : World) (h : Ints w v l) (h0 : 0 < l.length) :
    Calls Tryz.prog 157 #[v] w (MinPost l w) := by
  obtain ⟨a, cap, rfl, hle, hB, -, hcell⟩ := h.form
  clear h
  obtain ⟨b, off, rfl, hbl, hc⟩ := hcell h0
  have hk0 := hc 0 h0
  simp only [Nat.add_zero] at hk0
  clear hcell
  have HC := Lib.hid hc
  clear hc
  go_enter Tryz.func157, Tryz.ntmps157
  go_wp2
  go_loop [3, 4] (fun m i => ∃ (k : Nat) (x : Int), 1 ≤ k ∧ k ≤ l.length ∧ i = .int .i64 k ∧ m = .int .i64 x ∧ (∀ j, j < k → x ≤ ix l j) ∧ ∃ j, j < l.length ∧ x = ix l j) (fun _ i => l.length - (intOf i).toNat)
  case atStart =>
    refine ⟨1, ix l 0, by omega, by omega, rfl, rfl, ?_, 0, h0, rfl⟩
    exact fun j hj => by obtain rfl : j = 0 := by omega
                         exact Int.le_refl _
  -- j hj; obtain rfl : j = 0 := by omega; exact Int.le_refl _, 0, h0, rfl⟩⟩
  case round =>
    obtain ⟨k, x, hk0, hk, rfl, rfl, hmin, hex⟩ := hrel
    have HM := Lib.hid hmin
    have HE := Lib.hid hex
    clear hmin hex
    by_cases hlt : k < l.length
    · have hk1 := HC.out k hlt
      go_wp2
      all_goals
        go_round
        case rel =>
          refine ⟨k + 1, _, by omega, by omega, by go_num, rfl, lt_succ_all (fun j hj => ?_) ?_, ?_⟩
          · have := HM.out j hj; omega
          · omega
          · split
            · exact ⟨k, hlt, rfl⟩
            · exact HE.out
        case measure => simp [intOf]; omega
    · go_wp2
      go_ret
      exact ⟨x, rfl, ⟨fun i hi => HM.out i (by omega), HE.out⟩, rfl⟩
def increasingB (l : List Int) (n : Int) : Bool := orderedB l n && allR l.length (fun i => decide (0 < ix l i))
theorem increasing_any (v : Value) (l : List Int) (n : Int) (w : World) (h : Ints w v l) (hn : 0 ≤ n ∧ n ≤ 4611686018427387904) :
    Calls Tryz.prog 108 #[v, .int .i64 n] w fun e w' => e = .returned (.bool (increasingB l n)) ∧ Below w.heap.size w w' := by
  obtain ⟨a, cap, rfl, hle, hB, hi, -⟩ := h.form
  have H := Lib.hid hi
  clear h hi
  cases ho : orderedB l n with
  | false =>
    go_enter Tryz.func108, Tryz.ntmps108
    go_wp2_with (go_at_call 71; refine (ordered_any _ l n _ H.out hn).mono ?_; rintro e w1 ⟨rfl, hb1⟩)
    go_ret
    exact ⟨ret_bool (by simp [increasingB, ho]), hb1⟩
  | true =>
    by_cases h0 : l.length = 0
    · have hz : ((l.length : Int) == 0) = true := by simp [h0]
      have HZ := Lib.hid h0
      clear h0
      go_enter Tryz.func108, Tryz.ntmps108
      go_wp2_with (go_at_call 71; refine (ordered_any _ l n _ H.out hn).mono ?_; rintro e w1 ⟨rfl, hb1⟩)
      go_ret
      exact ⟨ret_bool (by simp [increasingB, ho, HZ.out, allR]), hb1⟩
    · have hz : ((l.length : Int) == 0) = false := by simp [h0]
      go_enter Tryz.func108, Tryz.ntmps108
      go_wp2_with (first
        | (go_at_call 71; refine (ordered_any _ l n _ H.out hn).mono ?_; rintro e w1 ⟨rfl, hb1⟩)
        | (go_at_call 157; refine (min_any _ l _ (H.out.below hb1) (by omega)).mono ?_; rintro e w2 ⟨m, rfl, hm, rfl⟩))
      go_ret
      refine ⟨ret_bool ?_, hb1⟩
      rw [increasingB, ho, Bool.true_and]
      by_cases hm0 : 0 < m
      · rw [allR_true (fun j hj => by have := hm.1 j hj; simp; omega)]
        simp [hm0]
      · obtain ⟨i, hi, e⟩ := hm.2
        rw [allR_false i hi (by simp; omega)]
        simp; omega
def sumTo (l : List Int) : Nat → Int
  | 0 => 0
  | k + 1 => sumTo l k + ix l k
def weightsB (l : List Int) (k : Int) : Bool := allR l.length (fun i => decide (1 ≤ ix l i ∧ ix l i ≤ 1048576 - sumTo l i)) && decide ((l.length : Int) = k)
theorem weights_any (v : Value) (l : List Int) (n : Int) (w : World) (h : Ints w v l) :
    Calls Tryz.prog 72 #[v, .int .i64 n] w fun e w' => e = .returned (.bool (weightsB l n)) ∧ w = w' := by
  obtain ⟨a, cap, rfl, hle, hB, -, hcell⟩ := h.form
  clear h
  go_enter Tryz.func72, Tryz.ntmps72
  go_wp2
  go_loop [5, 10] (fun s i => Hid (∃ (k : Nat), k ≤ l.length ∧ i = .int .i64 k ∧ s = .int .i64 (sumTo l k) ∧ (∀ j, j < k → 1 ≤ ix l j ∧ ix l j ≤ 1048576 - sumTo l j) ∧ 0 ≤ sumTo l k ∧ sumTo l k ≤ 1048576)) (fun _ i => l.length - (intOf i).toNat)
  case atStart => exact Lib.hid ⟨0, by omega, rfl, rfl, fun j hj => absurd hj (Nat.not_lt_zero _), by simp [sumTo], by simp [sumTo]⟩
  case round =>
    obtain ⟨k, hk, rfl, rfl, hall, hs0, hs1⟩ := hrel
    have HA := Lib.hid hall
    clear hall
    by_cases hlt : k < l.length
    · obtain ⟨b, off, rfl, hbl, hc⟩ := hcell (by omega)
      have hk1 := hc k hlt
      clear hc hcell
      by_cases h1 : 1 ≤ ix l k
      · by_cases h2 : ix l k ≤ 1048576 - sumTo l k
        · go_wp2
          first
            | (go_round
               case rel => (exact Lib.hid ⟨k + 1, by omega, by go_num, rfl, lt_succ_all HA.out ⟨h1, h2⟩, by rw [sumTo]; omega, by rw [sumTo]; omega⟩)
               case measure => (simp [intOf]; omega))
            | (refine ⟨?_, ?_⟩
               · (exact Lib.hid ⟨k + 1, by omega, by go_num, rfl, lt_succ_all HA.out ⟨h1, h2⟩, by rw [sumTo]; omega, by rw [sumTo]; omega⟩)
               · (simp [intOf]; omega))
        · go_wp2
          go_ret
          refine ⟨ret_bool ?_, rfl⟩
          rw [weightsB, allR_false k hlt (by simp [h1]; omega)]; rfl
      · go_wp2
        go_ret
        refine ⟨ret_bool ?_, rfl⟩
        rw [weightsB, allR_false k hlt (by simp; omega)]; rfl
    · have HL : Hid (k = l.length) := Lib.hid (by omega)
      go_wp2
      go_ret
      refine ⟨ret_bool ?_, rfl⟩
      rw [weightsB, allR_true (fun j hj => by simpa using HA.out j (by rw [HL.out]; exact hj))]
      rw [Bool.true_and, Bool.eq_iff_iff]; simp
def ruleE (r : GR) (n : Int) : Int :=
  if n < 0 ∨ 4000 < n then 2
  else if increasingB r.head n = false ∨ (r.choice = true ∧ r.head.length = 0) then 172
  else if orderedB r.body n = false then 173
  else if (r.sum = false ∧ (0 < r.w.length ∨ r.bound ≠ 0)) ∨ (r.sum = true ∧ (weightsB r.w r.body.length = false ∨ r.bound < 0 ∨ 1048576 < r.bound)) then 174
  else 0
set_option maxHeartbeats 1000000 in
theorem rule_any (v : Value) (r : GR) (n : Int) (w : World) (h : RuleIs w v r) :
    Calls Tryz.prog 70 #[v, .int .i64 n] w fun e w' => e = .returned (.int .i64 (ruleE r n)) ∧ Below w.heap.size w w' := by
  obtain ⟨vh, vb, vw, rfl, hh, hbd, hw, hbi⟩ := h
  have hal := bal (Below.refl w.heap.size w) (.cells #[.bool r.choice, vh, .bool r.sum, .int .i64 r.bound, vb, vw] 66)
  have HH := Lib.hid (hh.below hal)
  have HB := Lib.hid (hbd.below hal)
  have HW := Lib.hid (hw.below hal)
  obtain ⟨a1, c1, rfl, -, hl1, -, -⟩ := hh.form
  obtain ⟨a2, c2, rfl, -, hl2, -, -⟩ := hbd.form
  obtain ⟨a3, c3, rfl, -, hl3, -, -⟩ := hw.form
  clear hh hbd hw
  have hun := fun (x : Int) (e : ruleE r n = x) => e
  obtain ⟨ch, hd, sm, bd, bo, wt⟩ := r
  simp only at *
  have HU := Lib.hid hun
  clear hun
  by_cases hn : n < 0 ∨ 4000 < n
  · have HF : Hid (_ = (2 : Int)) := Lib.hid (HU.out 2 (if_pos hn))
    by_cases hn1 : n < 0
    · go_enter Tryz.func70, Tryz.ntmps70
      go_wp2
      go_ret
      exact ⟨ret_int HF.out.symm, hal⟩
    · have hn2 : 4000 < n := by omega
      go_enter Tryz.func70, Tryz.ntmps70
      go_wp2
      go_ret
      exact ⟨ret_int HF.out.symm, hal⟩
  have hn1 : ¬ n < 0 := by omega
  have hn2 : ¬ 4000 < n := by omega
  cases hi : increasingB hd n with
  | false =>
    have HF : Hid (_ = (172 : Int)) := Lib.hid (HU.out 172 (by simp [ruleE, hn, hi]))
    go_enter Tryz.func70, Tryz.ntmps70
    go_wp2_with (first
                  | (go_at_call 108; refine (increasing_any _ _ n _ HH.out (by omega)).mono ?_; rintro e w1 ⟨rfl, hb1⟩; have hc1 := bcell hb1)
                  | (go_at_call 71; refine (ordered_any _ _ n _ (HB.out.below hb1) (by omega)).mono ?_; rintro e w2 ⟨rfl, hb2⟩; have hz2 : w.heap.size < w1.heap.size := (by have := hb1.size; simp at this; omega); have hc2 := bcell hb2)
                  | (go_at_call 72; refine (weights_any _ _ _ _ ((HW.out.below hb1).below hb2)).mono ?_; rintro e w3 ⟨rfl, rfl⟩))
    go_ret
    exact ⟨ret_int HF.out.symm, bon hal hb1⟩
  | true =>
    by_cases hch : ch = true ∧ hd.length = 0
    · have HF : Hid (_ = (172 : Int)) := Lib.hid (HU.out 172 (by simp [ruleE, hn, hi, hch]))
      obtain ⟨rfl, hch2⟩ := hch
      have hch3 : ((hd.length : Int) == 0) = true := by simp [hch2]
      clear hch2
      go_enter Tryz.func70, Tryz.ntmps70
      go_wp2_with (first
                    | (go_at_call 108; refine (increasing_any _ _ n _ HH.out (by omega)).mono ?_; rintro e w1 ⟨rfl, hb1⟩; have hc1 := bcell hb1)
                    | (go_at_call 71; refine (ordered_any _ _ n _ (HB.out.below hb1) (by omega)).mono ?_; rintro e w2 ⟨rfl, hb2⟩; have hz2 : w.heap.size < w1.heap.size := (by have := hb1.size; simp at this; omega); have hc2 := bcell hb2)
                    | (go_at_call 72; refine (weights_any _ _ _ _ ((HW.out.below hb1).below hb2)).mono ?_; rintro e w3 ⟨rfl, rfl⟩))
      go_ret
      exact ⟨ret_int HF.out.symm, bon hal hb1⟩
    have hch' : ch = false ∨ (ch = true ∧ ((hd.length : Int) == 0) = false) := by
      cases ch with
      | false => exact .inl rfl
      | true => exact .inr ⟨rfl, by simp at hch; simp [hch]⟩
    have HC := Lib.hid hch
    clear hch
    cases ho : orderedB bo n with
    | false =>
      have HF : Hid (_ = (173 : Int)) := Lib.hid (HU.out 173 (by simp only [ruleE, if_neg hn, hi, HC.out, ho]; simp))
      rcases hch' with rfl | ⟨rfl, hch3⟩
      all_goals
        go_enter Tryz.func70, Tryz.ntmps70
        go_wp2_with (first
                      | (go_at_call 108; refine (increasing_any _ _ n _ HH.out (by omega)).mono ?_; rintro e w1 ⟨rfl, hb1⟩; have hc1 := bcell hb1)
                      | (go_at_call 71; refine (ordered_any _ _ n _ (HB.out.below hb1) (by omega)).mono ?_; rintro e w2 ⟨rfl, hb2⟩; have hz2 : w.heap.size < w1.heap.size := (by have := hb1.size; simp at this; omega); have hc2 := bcell hb2)
                      | (go_at_call 72; refine (weights_any _ _ _ _ ((HW.out.below hb1).below hb2)).mono ?_; rintro e w3 ⟨rfl, rfl⟩))
        go_ret
        exact ⟨ret_int HF.out.symm, bon (bon hal hb1) hb2⟩
    | true =>
      have HG : Hid (ruleE ⟨ch, hd, sm, bd, bo, wt⟩ n = if (sm = false ∧ (0 < wt.length ∨ bd ≠ 0)) ∨ (sm = true ∧ (weightsB wt bo.length = false ∨ bd < 0 ∨ 1048576 < bd)) then 174 else 0) :=
        Lib.hid (by simp only [ruleE, if_neg hn, hi, HC.out, ho]; simp)
      cases sm with
      | false =>
        by_cases hl0 : 0 < wt.length
        · have HF : Hid (_ = (174 : Int)) := Lib.hid (HU.out 174 (by rw [HG.out]; simp [hl0]))
          rcases hch' with rfl | ⟨rfl, hch3⟩
          all_goals
            go_enter Tryz.func70, Tryz.ntmps70
            go_wp2_with (first
                          | (go_at_call 108; refine (increasing_any _ _ n _ HH.out (by omega)).mono ?_; rintro e w1 ⟨rfl, hb1⟩; have hc1 := bcell hb1)
                          | (go_at_call 71; refine (ordered_any _ _ n _ (HB.out.below hb1) (by omega)).mono ?_; rintro e w2 ⟨rfl, hb2⟩; have hz2 : w.heap.size < w1.heap.size := (by have := hb1.size; simp at this; omega); have hc2 := bcell hb2)
                          | (go_at_call 72; refine (weights_any _ _ _ _ ((HW.out.below hb1).below hb2)).mono ?_; rintro e w3 ⟨rfl, rfl⟩))
            go_ret
            exact ⟨ret_int HF.out.symm, bon (bon hal hb1) hb2⟩
        · have hl1' : ¬ (0 : Int) < (wt.length : Int) := by omega
          by_cases hb0 : bd = 0
          · have HF : Hid (_ = (0 : Int)) := Lib.hid (HU.out 0 (by rw [HG.out]; simp [hb0]; simpa using hl0))
            subst hb0
            rcases hch' with rfl | ⟨rfl, hch3⟩
            all_goals
              go_enter Tryz.func70, Tryz.ntmps70
              go_wp2_with (first
                            | (go_at_call 108; refine (increasing_any _ _ n _ HH.out (by omega)).mono ?_; rintro e w1 ⟨rfl, hb1⟩; have hc1 := bcell hb1)
                            | (go_at_call 71; refine (ordered_any _ _ n _ (HB.out.below hb1) (by omega)).mono ?_; rintro e w2 ⟨rfl, hb2⟩; have hz2 : w.heap.size < w1.heap.size := (by have := hb1.size; simp at this; omega); have hc2 := bcell hb2)
                            | (go_at_call 72; refine (weights_any _ _ _ _ ((HW.out.below hb1).below hb2)).mono ?_; rintro e w3 ⟨rfl, rfl⟩))
              go_ret
              exact ⟨ret_int HF.out.symm, bon (bon hal hb1) hb2⟩
          · have HF : Hid (_ = (174 : Int)) := Lib.hid (HU.out 174 (by rw [HG.out]; simp [hb0]))
            have hb1 : (bd == 0) = false := by simp [hb0]
            have hb2 : (bd != 0) = true := by simp [hb0]
            rcases hch' with rfl | ⟨rfl, hch3⟩
            all_goals
              go_enter Tryz.func70, Tryz.ntmps70
              go_wp2_with (first
                            | (go_at_call 108; refine (increasing_any _ _ n _ HH.out (by omega)).mono ?_; rintro e w1 ⟨rfl, hb1⟩; have hc1 := bcell hb1)
                            | (go_at_call 71; refine (ordered_any _ _ n _ (HB.out.below hb1) (by omega)).mono ?_; rintro e w2 ⟨rfl, hb2⟩; have hz2 : w.heap.size < w1.heap.size := (by have := hb1.size; simp at this; omega); have hc2 := bcell hb2)
                            | (go_at_call 72; refine (weights_any _ _ _ _ ((HW.out.below hb1).below hb2)).mono ?_; rintro e w3 ⟨rfl, rfl⟩))
              go_ret
              exact ⟨ret_int HF.out.symm, bon (bon hal ‹_›) ‹_›⟩
      | true =>
        cases hwt : weightsB wt bo.length with
        | false =>
          have HF : Hid (_ = (174 : Int)) := Lib.hid (HU.out 174 (by rw [HG.out, hwt]; simp))
          rcases hch' with rfl | ⟨rfl, hch3⟩
          all_goals
            go_enter Tryz.func70, Tryz.ntmps70
            go_wp2_with (first
                          | (go_at_call 108; refine (increasing_any _ _ n _ HH.out (by omega)).mono ?_; rintro e w1 ⟨rfl, hb1⟩; have hc1 := bcell hb1)
                          | (go_at_call 71; refine (ordered_any _ _ n _ (HB.out.below hb1) (by omega)).mono ?_; rintro e w2 ⟨rfl, hb2⟩; have hz2 : w.heap.size < w1.heap.size := (by have := hb1.size; simp at this; omega); have hc2 := bcell hb2)
                          | (go_at_call 72; refine (weights_any _ _ _ _ ((HW.out.below hb1).below hb2)).mono ?_; rintro e w3 ⟨rfl, rfl⟩))
            go_ret
            exact ⟨ret_int HF.out.symm, bon (bon hal ‹_›) ‹_›⟩
        | true =>
          have HF : Hid (_ = if bd < 0 ∨ 1048576 < bd then (174 : Int) else 0) := Lib.hid (HU.out _ (by rw [HG.out, hwt]; simp))
          by_cases hx : bd < 0
          · rw [if_pos (.inl hx)] at HF
            rcases hch' with rfl | ⟨rfl, hch3⟩
            all_goals
              go_enter Tryz.func70, Tryz.ntmps70
              go_wp2_with (first
                            | (go_at_call 108; refine (increasing_any _ _ n _ HH.out (by omega)).mono ?_; rintro e w1 ⟨rfl, hb1⟩; have hc1 := bcell hb1)
                            | (go_at_call 71; refine (ordered_any _ _ n _ (HB.out.below hb1) (by omega)).mono ?_; rintro e w2 ⟨rfl, hb2⟩; have hz2 : w.heap.size < w1.heap.size := (by have := hb1.size; simp at this; omega); have hc2 := bcell hb2)
                            | (go_at_call 72; refine (weights_any _ _ _ _ ((HW.out.below hb1).below hb2)).mono ?_; rintro e w3 ⟨rfl, rfl⟩))
              go_ret
              exact ⟨ret_int HF.out.symm, bon (bon hal ‹_›) ‹_›⟩
          by_cases hy : 1048576 < bd
          · rw [if_pos (.inr hy)] at HF
            rcases hch' with rfl | ⟨rfl, hch3⟩
            all_goals
              go_enter Tryz.func70, Tryz.ntmps70
              go_wp2_with (first
                            | (go_at_call 108; refine (increasing_any _ _ n _ HH.out (by omega)).mono ?_; rintro e w1 ⟨rfl, hb1⟩; have hc1 := bcell hb1)
                            | (go_at_call 71; refine (ordered_any _ _ n _ (HB.out.below hb1) (by omega)).mono ?_; rintro e w2 ⟨rfl, hb2⟩; have hz2 : w.heap.size < w1.heap.size := (by have := hb1.size; simp at this; omega); have hc2 := bcell hb2)
                            | (go_at_call 72; refine (weights_any _ _ _ _ ((HW.out.below hb1).below hb2)).mono ?_; rintro e w3 ⟨rfl, rfl⟩))
              go_ret
              exact ⟨ret_int HF.out.symm, bon (bon hal ‹_›) ‹_›⟩
          · rw [if_neg (by omega)] at HF
            rcases hch' with rfl | ⟨rfl, hch3⟩
            all_goals
              go_enter Tryz.func70, Tryz.ntmps70
              go_wp2_with (first
                            | (go_at_call 108; refine (increasing_any _ _ n _ HH.out (by omega)).mono ?_; rintro e w1 ⟨rfl, hb1⟩; have hc1 := bcell hb1)
                            | (go_at_call 71; refine (ordered_any _ _ n _ (HB.out.below hb1) (by omega)).mono ?_; rintro e w2 ⟨rfl, hb2⟩; have hz2 : w.heap.size < w1.heap.size := (by have := hb1.size; simp at this; omega); have hc2 := bcell hb2)
                            | (go_at_call 72; refine (weights_any _ _ _ _ ((HW.out.below hb1).below hb2)).mono ?_; rintro e w3 ⟨rfl, rfl⟩))
              go_ret
              exact ⟨ret_int HF.out.symm, bon (bon hal ‹_›) ‹_›⟩
set_option maxRecDepth 100000 in
theorem indexByte_any (s : ByteArray) (c : Int) (w : World) :
    Calls Tryz.prog 226 #[.string s, .int .u8 c] w fun e w' => e = .returned (.int .i64 (Lib.indexByte s.data.toList c.toNat.toUInt8)) ∧ w = w' := by
  go_enter Tryz.func226, Tryz.ntmps226
  go_wp2
  rw [run_callFunc_extern Tryz.func251 (by kernel_rfl) (by kernel_rfl) (by kernel_rfl) (e := Extern.BytealgIndexByte.indexByte) (by kernel_rfl), Lib.run_indexByteString]
  simp only [Result.andThen]
  rw [Oper.upon_value]
  go_wp2
  go_ret
  exact ⟨rfl, rfl⟩
def nlI (s : ByteArray) : Int := Lib.indexByte s.data.toList 10
def nlB (s : ByteArray) : Bool := decide (0 ≤ nlI s)
theorem indexNl_any (s : ByteArray) (w : World) :
    Calls Tryz.prog 204 #[.string s, .string ⟨#[10]⟩] w fun e w' => e = .returned (.int .i64 (nlI s)) ∧ w = w' := by
  go_enter Tryz.func204, Tryz.ntmps204
  go_wp2_with (go_at_call 226; refine (indexByte_any _ _ _).mono ?_; rintro e w' ⟨rfl, rfl⟩)
  · have h : ([10] == s.toList) = true := by assumption
    go_ret
    refine ⟨ret_int ?_, rfl⟩
    rw [nlI]
    have h2 : s.data.toList = [10] := by
      have h3 : [10] = s.toList := by simpa using h
      rw [h3]
      exact (Lib.toList_data s).symm
    rw [h2]; rfl
  · go_ret
    exact ⟨ret_int rfl, rfl⟩
theorem stringsIndexNl_any (s : ByteArray) (w : World) :
    Calls Tryz.prog 158 #[.string s, .string ⟨#[10]⟩] w fun e w' => e = .returned (.int .i64 (nlI s)) ∧ w = w' := by
  go_enter Tryz.func158, Tryz.ntmps158
  go_wp2_with (go_at_call 204; refine (indexNl_any _ _).mono ?_; rintro e w' ⟨rfl, rfl⟩)
  go_ret
  exact ⟨ret_int rfl, rfl⟩
theorem containsNl_any (s : ByteArray) (w : World) :
    Calls Tryz.prog 109 #[.string s, .string ⟨#[10]⟩] w fun e w' => e = .returned (.bool (nlB s)) ∧ w = w' := by
  go_enter Tryz.func109, Tryz.ntmps109
  go_wp2_with (go_at_call 158; refine (stringsIndexNl_any _ _).mono ?_; rintro e w' ⟨rfl, rfl⟩)
  go_ret
  exact ⟨ret_bool rfl, rfl⟩
end Go.Proofs.YteblddnoegbalaaGreat
