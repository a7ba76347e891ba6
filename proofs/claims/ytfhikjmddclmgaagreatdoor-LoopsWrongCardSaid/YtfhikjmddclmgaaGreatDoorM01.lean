/- My texts Pool, Ext, Perm, merged. -/
import Derived.Test.YtfhikjmddclmgaaGreatDoorM00

/- The memory of the sources while they are made: each block has a colour, which tells the part that it belongs to. -/
namespace Go.Proofs.YtfhikjmddclmgaaGreatDoor
open Go.RowKit

/-- The parts. -/
inductive Tg
  | ro | obj | hm | um | fm | km | rules | head (x : Int) | use (x : Int)
  deriving DecidableEq

def Col (κ : Nat → Tg) (t : Tg) (v : Value) : Prop := ∀ g, v.ownBlock = some g → κ g = t

/-- From w to w' only blocks of colour t have turned. -/
structure Turn (κ : Nat → Tg) (t : Tg) (w w' : World) : Prop where
  size : w.heap.size ≤ w'.heap.size
  block : ∀ i, i < w.heap.size → κ i ≠ t → w'.heap[i]? = w.heap[i]?

/-- Two colourings agree on what there is. -/
def Agr (κ κ' : Nat → Tg) (w : World) : Prop := ∀ i, i < w.heap.size → κ' i = κ i

section
variable {κ κ' : Nat → Tg} {t s : Tg} {w w' : World} {H : Nat}

theorem Turn.of_grown {row : Option Nat} (h : w.grownBy w' row) (hr : ∀ g, row = some g → κ g = t) : Turn κ t w w' :=
  ⟨h.size, fun i hi hk => h.block i hi (fun e => hk (hr i e.symm))⟩

theorem Turn.setCell (b o : Nat) (v : Value) (hb : κ b = t) : Turn κ t w (w.setCell ⟨b, o, none⟩ v) :=
  ⟨by simp [World.setCell], fun i _ hk => Below.heap_setCell _ _ _ _ (by rintro rfl; exact hk hb)⟩

theorem Col.mono {base E bytes n : Nat} {f : Nat → Value} {v : Value} (h : Col κ t v) (ho : Own1 base E bytes w v n f) (ha : Agr κ κ' w) : Col κ' t v := by
  intro g hg
  rcases ho.1.2 with ⟨rfl, _⟩ | ⟨g', cap, cur, rfl, _, hgg, _⟩
  · cases hg
  · have : g' = g := by simpa [Value.ownBlock] using hg
    subst this
    rw [ha _ (Array.getElem?_eq_some_iff.1 hgg).1]
    exact h _ hg

theorem rowTurn {base E size n : Nat} {xs : List Value} {v : Value} (h : w.ownsRow base E size v n xs) (hc : Col κ s v) (ht : Turn κ t w w') (hne : s ≠ t) : w'.ownsRow base E size v n xs := by
  refine ⟨h.1, ?_⟩
  rcases h.2 with hn | ⟨g, cap, cur, rfl, hb, hgg, rest⟩
  · exact .inl hn
  · refine .inr ⟨g, cap, cur, rfl, hb, ?_, rest⟩
    rw [ht.block g (Array.getElem?_eq_some_iff.1 hgg).1 (by rw [hc g rfl]; exact hne)]
    exact hgg

theorem rowCol {base E size n : Nat} {xs : List Value} {v : Value} (h : w.ownsRow base E size v n xs) (hc : Col κ t v) (ha : Agr κ κ' w) : Col κ' t v := by
  intro g hg
  rcases h.2 with ⟨rfl, _⟩ | ⟨g', cap, cur, rfl, _, hgg, _⟩
  · cases hg
  · have : g' = g := by simpa [Value.ownBlock] using hg
    subst this
    rw [ha _ (Array.getElem?_eq_some_iff.1 hgg).1]
    exact hc _ hg

theorem Own1.turn {base E bytes n : Nat} {f : Nat → Value} {v : Value} (h : Own1 base E bytes w v n f) (hc : Col κ s v) (ht : Turn κ t w w') (hne : s ≠ t) : Own1 base E bytes w' v n f := ⟨rowTurn h.1 hc ht hne, h.2⟩
theorem OwnI.turn {base : Nat} {l : List Int} {v : Value} (h : OwnI base w v l) (hc : Col κ s v) (ht : Turn κ t w w') (hne : s ≠ t) : OwnI base w' v l := ⟨h.1.turn hc ht hne, h.2⟩
theorem OwnS.turn {base : Nat} {l : List ByteArray} {v : Value} (h : OwnS base w v l) (hc : Col κ s v) (ht : Turn κ t w w') (hne : s ≠ t) : OwnS base w' v l := ⟨h.1.turn hc ht hne, h.2⟩
theorem Blk.turn {b : Nat} {c : List Value} {T : TypeId} (h : Blk w b c T) (hb : κ b = s) (ht : Turn κ t w w') (hne : s ≠ t) : Blk w' b c T := h.same (ht.block b h.lt (by rw [hb]; exact hne))
theorem MapIs.turn {b : Nat} {g : Int → Option Value} (h : MapIs (Value.int .i64) w b g) (hb : κ b = s) (ht : Turn κ t w w') (hne : s ≠ t) : MapIs (Value.int .i64) w' b g := h.same (ht.block b h.lt (by rw [hb]; exact hne))

/-- Values in new blocks have the new blocks' colour. -/
theorem Col.fresh {base E bytes n : Nat} {f : Nat → Value} {v : Value} (ho : Own1 base E bytes w v n f) (hk : ∀ i, base ≤ i → κ i = t) : Col κ t v := by
  intro g hg
  rcases ho.1.2 with ⟨rfl, _⟩ | ⟨g', cap, cur, rfl, hb, hgg, _⟩
  · cases hg
  · have : g' = g := by simpa [Value.ownBlock] using hg
    subst this
    exact hk _ hb

end

/-! ### A map of rows of ints -/
def nilS : Value := .slice none 0 0

structure RowsM (κ : Nat → Tg) (tg : Int → Tg) (tm : Tg) (H : Nat) (bm : Nat) (g : Int → Option Value) (R : Int → List Int) (w : World) : Prop where
  map : MapIs (Value.int .i64) w bm g
  mapk : κ bm = tm
  row : ∀ x, OwnI H w ((g x).getD nilS) (R x)
  rowk : ∀ x, Col κ (tg x) ((g x).getD nilS)

section
variable {κ κ' : Nat → Tg} {t tm : Tg} {tg : Int → Tg} {w w' : World} {H bm : Nat} {g : Int → Option Value} {R : Int → List Int}

theorem ownNil (H : Nat) (w : World) : OwnI H w nilS [] := ⟨⟨World.ownsRow_nil _ _ _ _, by simp⟩, fun i => by simp [ix]⟩

theorem RowsM.new (h : MapIs (Value.int .i64) w bm (fun _ => none)) (hk : κ bm = tm) : RowsM κ tg tm H bm (fun _ => none) (fun _ => []) w :=
  ⟨h, hk, fun x => ownNil H w, fun x g hg => by cases hg⟩

theorem RowsM.below (h : RowsM κ tg tm H bm g R w) (hb : Below w.heap.size w w') : RowsM κ tg tm H bm g R w' :=
  ⟨h.map.below hb, h.mapk, fun x => (h.row x).below hb, h.rowk⟩

theorem RowsM.recol (h : RowsM κ tg tm H bm g R w) (ha : Agr κ κ' w) : RowsM κ' tg tm H bm g R w :=
  ⟨h.map, (ha _ h.map.lt).trans h.mapk, h.row, fun x => (h.rowk x).mono (h.row x).1 ha⟩

theorem RowsM.turn (h : RowsM κ tg tm H bm g R w) (ht : Turn κ t w w') (h1 : tm ≠ t) (h2 : ∀ x, tg x ≠ t) : RowsM κ tg tm H bm g R w' :=
  ⟨h.map.turn h.mapk ht h1, h.mapk, fun x => (h.row x).turn (h.rowk x) ht (h2 x), h.rowk⟩

def pushR (R : Int → List Int) (x k : Int) : Int → List Int := fun y => if y = x then R y ++ [k] else R y

theorem ix_append (l : List Int) (k : Int) : (List.range (l ++ [k]).length).map (fun i => Value.int .i64 (ix (l ++ [k]) i)) = (List.range l.length).map (fun i => Value.int .i64 (ix l i)) ++ [.int .i64 k] := by
  rw [List.length_append, List.length_singleton, List.range_succ, List.map_append]
  congr 1
  · refine List.map_congr_left fun i hi => ?_
    have : i < l.length := by simpa using hi
    simp [ix, List.getElem?_append_left this]
  · simp [ix]

theorem Fits.push {l : List Int} {k : Int} (h : Fits l) (hk : InI k) : Fits (l ++ [k]) := by
  intro i
  rcases Nat.lt_trichotomy i l.length with h1 | h1 | h1
  · have := h i
    simpa [ix, List.getElem?_append_left h1] using this
  · subst h1
    simpa [ix, InI] using hk
  · simp [ix, List.getElem?_eq_none (show (l ++ [k]).length ≤ i by simp; omega)]

/-- The colouring with one block more. -/
def paint (κ : Nat → Tg) (g : Nat) (t : Tg) : Nat → Tg := fun i => if i = g then t else κ i

theorem paint_agr {v : Value} {gg : Nat} (hc : Col κ t v) (hl : v.ownBlock = some gg ∨ gg = w.heap.size) : Agr κ (paint κ gg t) w := by
  intro i hi
  unfold paint
  split
  · rename_i e
    subst e
    rcases hl with h | h
    · exact (hc _ h).symm
    · omega
  · rfl

/-- A row is appended to, and stored again. -/
theorem RowsM.push (inj : ∀ x y, tg x = tg y → x = y) (hne : ∀ x, tg x ≠ tm) (h : RowsM κ tg tm H bm g R w) (x k : Int) (hk : InI k) {gg cap : Nat} {w1 w2 : World}
    (hlen : ((R x).length + 1) * 8 ≤ 140737488351232)
    (hown : w1.ownsRow H 3 1 (.slice (some ⟨gg, 0, none⟩) ((R x).length + 1) cap) ((R x).length + 1) ((List.range (R x).length).map (fun i => Value.int .i64 (ix (R x) i)) ++ [.int .i64 k]))
    (hg : w.grownBy w1 ((g x).getD nilS).ownBlock) (hl : ((g x).getD nilS).ownBlock = some gg ∨ gg = w.heap.size)
    (hm : MapIs (Value.int .i64) w2 bm (upd g x (some (.slice (some ⟨gg, 0, none⟩) ((R x).length + 1) cap)))) (hg2 : w1.grownBy w2 (some bm)) :
    Agr κ (paint κ gg (tg x)) w ∧ Turn (paint κ gg (tg x)) (tg x) w w1 ∧ Turn (paint κ gg (tg x)) tm w1 w2 ∧
    RowsM (paint κ gg (tg x)) tg tm H bm (upd g x (some (.slice (some ⟨gg, 0, none⟩) ((R x).length + 1) cap))) (pushR R x k) w2 := by
  have ha := paint_agr (w := w) (h.rowk x) hl
  have h1 : RowsM (paint κ gg (tg x)) tg tm H bm g R w := h.recol ha
  have t1 : Turn (paint κ gg (tg x)) (tg x) w w1 := .of_grown hg (h1.rowk x)
  have t2 : Turn (paint κ gg (tg x)) tm w1 w2 := .of_grown hg2 (fun b e => by cases e; exact h1.mapk)
  refine ⟨ha, t1, t2, hm, h1.mapk, fun y => ?_, fun y => ?_⟩
  · by_cases hy : y = x
    · subst hy
      rw [upd_same]
      simp only [Option.getD_some, pushR, if_true]
      refine ⟨⟨?_, by simpa using hlen⟩, (h.row y).2.push hk⟩
      rw [ix_append]
      have : (R y ++ [k]).length = (R y).length + 1 := by simp
      rw [this]
      exact rowTurn hown (s := tg y) (κ := paint κ gg (tg y)) (fun b e => by simp only [Value.ownBlock, Option.some.injEq] at e; subst e; simp [paint]) t2 (hne y)
    · rw [upd_other _ _ hy]
      simp only [pushR, if_neg hy]
      exact ((h1.row y).turn (h1.rowk y) t1 (fun e => hy (inj _ _ e))).turn (h1.rowk y) t2 (hne y)
  · by_cases hy : y = x
    · subst hy
      rw [upd_same]
      intro b e
      simp only [Option.getD_some, Value.ownBlock, Option.some.injEq] at e; subst e; simp [paint]
    · rw [upd_other _ _ hy]
      exact h1.rowk y

end

/-- What is not of a row's colour does not turn when the row is appended to. -/
theorem RowsM.far {κ : Nat → Tg} {tg : Int → Tg} {tm s : Tg} {H bm b : Nat} {g : Int → Option Value} {R : Int → List Int} {w w' : World} (h : RowsM κ tg tm H bm g R w) (hs : κ b = s) (hne : ∀ x, tg x ≠ s) (x : Int) (hg : w.grownBy w' ((g x).getD nilS).ownBlock) (hb : b < w.heap.size) : w'.heap[b]? = w.heap[b]? :=
  hg.block b hb (fun e => hne x ((h.rowk x b e.symm).symm.trans hs))

/-! ### The rules -/
abbrev RQ := GR × Value × Value × Value

def cells6 (q : RQ) : List Value := [.bool q.1.choice, q.2.1, .bool q.1.sum, .int .i64 q.1.bound, q.2.2.1, q.2.2.2]

structure RuleOwn (κ : Nat → Tg) (H : Nat) (w : World) (q : RQ) : Prop where
  head : OwnI H w q.2.1 q.1.head
  body : OwnI H w q.2.2.1 q.1.body
  wts : OwnI H w q.2.2.2 q.1.w
  bound : InI q.1.bound
  headk : Col κ .ro q.2.1
  bodyk : Col κ .ro q.2.2.1
  wtsk : Col κ .ro q.2.2.2

structure RulesOwn (κ : Nat → Tg) (H : Nat) (v : Value) (L : List RQ) (w : World) : Prop where
  row : w.ownsRow H 60 6 v L.length (L.flatMap cells6)
  rowk : Col κ .rules v
  each : ∀ q ∈ L, RuleOwn κ H w q
  fit : L.length * 88 ≤ 140737488351232

section
variable {κ κ' : Nat → Tg} {t : Tg} {w w' : World} {H : Nat} {v : Value} {L : List RQ} {q : RQ}

theorem RuleOwn.below (h : RuleOwn κ H w q) (hb : Below w.heap.size w w') : RuleOwn κ H w' q := ⟨h.head.below hb, h.body.below hb, h.wts.below hb, h.bound, h.headk, h.bodyk, h.wtsk⟩
theorem RuleOwn.recol (h : RuleOwn κ H w q) (ha : Agr κ κ' w) : RuleOwn κ' H w q := ⟨h.head, h.body, h.wts, h.bound, h.headk.mono h.head.1 ha, h.bodyk.mono h.body.1 ha, h.wtsk.mono h.wts.1 ha⟩
theorem RuleOwn.turn (h : RuleOwn κ H w q) (ht : Turn κ t w w') (hne : Tg.ro ≠ t) : RuleOwn κ H w' q := ⟨h.head.turn h.headk ht hne, h.body.turn h.bodyk ht hne, h.wts.turn h.wtsk ht hne, h.bound, h.headk, h.bodyk, h.wtsk⟩

theorem rowBelow {base E size n : Nat} {xs : List Value} (h : w.ownsRow base E size v n xs) (hb : Below w.heap.size w w') : w'.ownsRow base E size v n xs :=
  h.kept (row := none) ⟨hb.os, hb.tape, hb.output, hb.size, fun k hk _ => hb.block k hk⟩ (by cases v.ownBlock <;> simp)

theorem RulesOwn.below (h : RulesOwn κ H v L w) (hb : Below w.heap.size w w') : RulesOwn κ H v L w' := ⟨rowBelow h.row hb, h.rowk, fun q hq => (h.each q hq).below hb, h.fit⟩
theorem RulesOwn.recol (h : RulesOwn κ H v L w) (ha : Agr κ κ' w) : RulesOwn κ' H v L w := ⟨h.row, rowCol h.row h.rowk ha, fun q hq => (h.each q hq).recol ha, h.fit⟩
theorem RulesOwn.turn (h : RulesOwn κ H v L w) (ht : Turn κ t w w') (h1 : Tg.ro ≠ t) (h2 : Tg.rules ≠ t) : RulesOwn κ H v L w' := ⟨rowTurn h.row h.rowk ht h2, h.rowk, fun q hq => (h.each q hq).turn ht h1, h.fit⟩

theorem RulesOwn.nil (κ : Nat → Tg) (H : Nat) (w : World) : RulesOwn κ H nilS [] w := ⟨World.ownsRow_nil _ _ _ _, (fun g hg => by cases hg), (by simp), by simp⟩

/-- A rule is appended. -/
theorem RulesOwn.push (h : RulesOwn κ H v L w) (hq : RuleOwn κ H w q) {gg cap : Nat} {w1 : World} (hlen : (L.length + 1) * 88 ≤ 140737488351232)
    (hown : w1.ownsRow H 60 6 (.slice (some ⟨gg, 0, none⟩) (L.length + 1) cap) (L.length + 1) (L.flatMap cells6 ++ cells6 q))
    (hg : w.grownBy w1 v.ownBlock) (hl : v.ownBlock = some gg ∨ gg = w.heap.size) :
    Agr κ (paint κ gg .rules) w ∧ Turn (paint κ gg .rules) .rules w w1 ∧ RulesOwn (paint κ gg .rules) H (.slice (some ⟨gg, 0, none⟩) (L.length + 1) cap) (L ++ [q]) w1 := by
  have ha := paint_agr (w := w) h.rowk hl
  have h1 := h.recol ha
  have hq1 := hq.recol ha
  have t1 : Turn (paint κ gg .rules) .rules w w1 := .of_grown hg h1.rowk
  refine ⟨ha, t1, ⟨?_, fun b e => by simp only [Value.ownBlock, Option.some.injEq] at e; subst e; simp [paint], fun q' hq' => ?_, by simpa using hlen⟩⟩
  · have e : (L ++ [q]).flatMap cells6 = L.flatMap cells6 ++ cells6 q := by simp
    rw [e, List.length_append, List.length_singleton]
    exact hown
  · rcases List.mem_append.1 hq' with hq' | hq'
    · exact (h1.each q' hq').turn t1 (by simp)
    · simp only [List.mem_singleton] at hq'
      subst hq'
      exact hq1.turn t1 (by simp)

end

/-- A row of the call's own is appended to. -/
theorem belowRow {w0 w w' : World} {base E size n : Nat} {xs : List Value} {v : Value} (hb : Below base w0 w) (ho : w.ownsRow base E size v n xs) (hg : w.grownBy w' v.ownBlock) (hs : base ≤ w.heap.size) : Below base w0 w' := by
  refine hb.trans ⟨hg.os, hg.tape, hg.output, hg.size, fun k hk => hg.block k (by omega) (fun e => ?_)⟩
  rcases ho.2 with ⟨rfl, _⟩ | ⟨g', cap, cur, rfl, hbg, _⟩
  · cases e
  · have : k = g' := by simpa [Value.ownBlock] using e
    omega

theorem belowBlock {w0 w w' : World} {base b : Nat} (hb : Below base w0 w) (hg : w.grownBy w' (some b)) (hs : base ≤ w.heap.size) (hbb : base ≤ b) : Below base w0 w' :=
  hb.trans ⟨hg.os, hg.tape, hg.output, hg.size, fun k hk => hg.block k (by omega) (fun e => by simp at e; omega)⟩

end Go.Proofs.YtfhikjmddclmgaaGreatDoor

/- A region that draws its order and holds calls that make memory: one walk serves every order, in the class of the worlds that keep what lay before. -/
namespace Go.Proofs.YtfhikjmddclmgaaGreatDoor
open Go.RowKit

/-- A world in which what lay in w lies unturned. -/
structure Ext (w : World) where
  world : World
  below : Below w.heap.size w world

instance instExt (w : World) : Nonempty (Ext w) := ⟨⟨w, Below.refl _ _⟩⟩

theorem Ext.cell {w : World} (e : Ext w) (b o : Nat) (h : b < w.heap.size) : e.world.cell? ⟨b, o, none⟩ = w.cell? ⟨b, o, none⟩ := bcell e.below b o h

theorem wp_region_ext {P : Program} {id : Nat} {Q : Exit → Act → World → Prop} {a : Act} {w : World} {l : List Oper} (hm : P.follows .mixedOrders = true) (hB : Region.lexB .any l.toArray = true)
    (h : wpQuiet P l.toArray (fun w' => ∃ e : Ext w, w' = e.world) (fun a' => ∀ w', (∃ e : Ext w, w' = e.world) → Q .normal a' w') l a) : (Code.region id l.toArray true).wp P Q a w :=
  wp_region_quiet (C := fun w' => ∃ e : Ext w, w' = e.world) hm hB ⟨⟨_, (Below.refl _ w).drew⟩, rfl⟩ (by simpa using h)

theorem Calls.ext_of {P : Program} {f : FuncId} {args : Array Value} {w : World} {e : Ext w} {v : Value}
    (h : Calls P f args e.world fun x w' => x = .returned v ∧ Below e.world.heap.size e.world w') : Calls P f args e.world fun x w'' => x = .returned v ∧ ∃ e2 : Ext w, w'' = e2.world :=
  h.mono fun _ _ ⟨he, hb⟩ => ⟨he, ⟨_, bon e.below hb⟩, rfl⟩

theorem Calls.ext_of_same {P : Program} {f : FuncId} {args : Array Value} {w : World} {e : Ext w} {v : Value}
    (h : Calls P f args e.world fun x w' => x = .returned v ∧ e.world = w') : Calls P f args e.world fun x w'' => x = .returned v ∧ ∃ e2 : Ext w, w'' = e2.world :=
  h.mono fun _ _ ⟨he, hb⟩ => ⟨he, e, hb.symm⟩

end Go.Proofs.YtfhikjmddclmgaaGreatDoor

/- A region that draws its order and in which several operations make memory: one walk in the order of the text serves every order, if what each such operation leaves is said by a predicate that later worlds keep. -/
namespace Go.Proofs.YtfhikjmddclmgaaGreatDoor
open Go.RowKit

section
variable {P : Program} {ops : Array Oper}

def dstOf (ops : Array Oper) (i : Nat) : Option Tmp := (ops[i]?).bind (·.dst)

/-- The frame in which the operations of L, among the first k, have left their values. -/
def fr (ops : Array Oper) (vals : Nat → Value) (L : Nat → Bool) (a0 : Act) : Nat → Act
  | 0 => a0
  | k + 1 => if L k then (fr ops vals L a0 k).put (dstOf ops k) (vals k) else fr ops vals L a0 k

theorem fr_congr {vals vals' : Nat → Value} {L L' : Nat → Bool} {a0 : Act} : ∀ k, (∀ j, j < k → L j = L' j ∧ (L j = true → vals j = vals' j)) → fr ops vals L a0 k = fr ops vals' L' a0 k
  | 0, _ => rfl
  | k + 1, h => by
    obtain ⟨h1, h2⟩ := h k (by omega)
    unfold fr
    rw [fr_congr k (fun j hj => h j (by omega)), ← h1]
    split
    · rename_i hl; rw [h2 hl]
    · rfl

theorem fr_trunc {vals : Nat → Value} {L : Nat → Bool} {a0 : Act} (i : Nat) : ∀ k, i ≤ k → (∀ j, i ≤ j → j < k → L j = false) → fr ops vals L a0 k = fr ops vals L a0 i
  | 0, h, _ => by
    obtain rfl : i = 0 := by omega
    rfl
  | k + 1, h, hl => by
    rcases Nat.lt_or_ge k i with hlt | hge
    · obtain rfl : i = k + 1 := by omega
      rfl
    · show (if L k then _ else _) = _
      rw [hl k hge (by omega)]
      exact fr_trunc i k hge (fun j h1 h2 => hl j h1 (by omega))

theorem put_size (a : Act) (d : Option Tmp) (v : Value) : (a.put d v).tmps.size = a.tmps.size := by cases d <;> simp [Act.put]
theorem put_defers' (a : Act) (d : Option Tmp) (v : Value) : (a.put d v).defers = a.defers := by cases d <;> rfl

/-- Two frames look alike to an operation. -/
def Agree (ops : Array Oper) (o : Oper) (a b : Act) : Prop := a.tmps.size = b.tmps.size ∧ ∀ t, t ∈ o.looksAt ops → a.tmps[t]? = b.tmps[t]?

theorem Agree.symm {o : Oper} {a b : Act} (h : Agree ops o a b) : Agree ops o b a := ⟨h.1.symm, fun t ht => (h.2 t ht).symm⟩

theorem agree_fold {o : Oper} {vx vy : Nat → Value} {Lx Ly : Nat → Bool} {a0 : Act} : ∀ k,
    (∀ j, j < k → (Lx j = Ly j ∧ (Lx j = true → vx j = vy j)) ∨ (∀ d, dstOf ops j = some d → d ∉ o.looksAt ops)) → Agree ops o (fr ops vx Lx a0 k) (fr ops vy Ly a0 k)
  | 0, _ => ⟨rfl, fun _ _ => rfl⟩
  | k + 1, h => by
    obtain ⟨i1, i2⟩ := agree_fold (a0 := a0) k (fun j hj => h j (by omega))
    have hput : ∀ (a : Act) (v : Value), (∀ d, dstOf ops k = some d → d ∉ o.looksAt ops) → ∀ t, t ∈ o.looksAt ops → (a.put (dstOf ops k) v).tmps[t]? = a.tmps[t]? := by
      intro a v hd t ht
      cases hk : dstOf ops k with
      | none => rfl
      | some d =>
        have hne : d ≠ t := fun e => hd d hk (e ▸ ht)
        simp [Act.put, Array.getElem?_setIfInBounds_ne hne]
    unfold fr
    rcases h k (by omega) with ⟨h1, h2⟩ | h1
    · rw [← h1]
      split
      · rename_i hl
        rw [h2 hl]
        refine ⟨by simp [put_size, i1], fun t ht => ?_⟩
        cases hk : dstOf ops k with
        | none => exact i2 t ht
        | some d =>
          by_cases hd : d = t
          · subst hd
            simp [Act.put, Array.getElem?_setIfInBounds, i1]
          · simp only [Act.put, Array.getElem?_setIfInBounds_ne hd]
            exact i2 t ht
      · exact ⟨i1, i2⟩
    · refine ⟨?_, fun t ht => ?_⟩
      · split <;> split <;> simp [put_size, i1]
      · split <;> split <;> simp only [hput _ _ h1 t ht, i2 t ht]

theorem Agree.eval {o : Oper} {a b : Act} (h : Agree ops o a b) : ∀ x ∈ o.op.operands, a.eval x = b.eval x := by
  intro x hx
  cases x with
  | tmp t =>
    have := h.2 t (List.mem_append_left _ (List.mem_filterMap.2 ⟨.tmp t, by simpa using hx, rfl⟩))
    simp [Act.eval, this]
  | _ => rfl

theorem Agree.wanted {o : Oper} {a b : Act} (h : Agree ops o a b) : Region.wanted o (yielded ops a.tmps) = Region.wanted o (yielded ops b.tmps) := by
  unfold Region.wanted
  cases hg : o.guard with
  | none => rfl
  | some gw =>
    obtain ⟨g, want⟩ := gw
    have hy : yielded ops a.tmps g = yielded ops b.tmps g := by
      unfold yielded
      cases ht : (ops[g]?).bind (·.dst) with
      | none => rfl
      | some t =>
        have := h.2 t (by simp [Oper.looksAt, hg, ht])
        simp [this]
    simp only [hy]

def detUpon (w : World) (v : Value) : Result Next → Prop
  | .ok (.value u) w' => w' = w ∧ u = v
  | .ok .skip w' => w' = w ∧ v = undef
  | _ => False

def memUpon (P : Program) (R : Value → World → Prop) : Result Next → Prop
  | .ok (.value u) w' => R u w'
  | .ok (.enter f args) w' => Calls P f args w' (fun e w'' => ∃ v, e = .returned v ∧ R v w'')
  | _ => False

/-- The operation yields v and leaves the world alone. -/
def DetStep (P : Program) (ops : Array Oper) (o : Oper) (a : Act) (w : World) (v : Value) : Prop :=
  if Region.wanted o (yielded ops a.tmps) then detUpon w v ((execOp a.eval o).run P w) else v = undef

/-- The operation yields some value and leaves some world, of which R holds. -/
def MemStep (P : Program) (ops : Array Oper) (o : Oper) (a : Act) (w : World) (R : Value → World → Prop) : Prop :=
  Region.wanted o (yielded ops a.tmps) = true ∧ memUpon P R ((execOp a.eval o).run P w)

theorem DetStep.unique {o : Oper} {a : Act} {w : World} {v v' : Value} (h : DetStep P ops o a w v) (h' : DetStep P ops o a w v') : v = v' := by
  unfold DetStep at *
  split at h
  · rename_i hw
    rw [if_pos hw] at h'
    generalize (execOp a.eval o).run P w = r at *
    cases r with
    | ok n w' => cases n <;> simp only [detUpon] at h h' <;> first | exact h.2.symm.trans h'.2 | exact h.2.trans h'.2.symm
    | halt x w' => simp only [detUpon] at h
  · rename_i hw
    rw [if_neg hw] at h'
    rw [h, h']

theorem DetStep.agree {o : Oper} (hs : ∀ cs b, o.op ≠ .select cs b) {a b : Act} (h : Agree ops o a b) {w : World} {v : Value} (hd : DetStep P ops o a w v) : DetStep P ops o b w v := by
  unfold DetStep at *
  rw [← h.wanted, ← execOp_congr o hs h.eval]
  exact hd

theorem MemStep.agree {o : Oper} (hs : ∀ cs b, o.op ≠ .select cs b) {a b : Act} (h : Agree ops o a b) {w : World} {R : Value → World → Prop} (hd : MemStep P ops o a w R) : MemStep P ops o b w R := by
  unfold MemStep at *
  rw [← h.wanted, ← execOp_congr o hs h.eval]
  exact hd

theorem Calls.some {f : FuncId} {args : Array Value} {w : World} {R : Ending → World → Prop} (h : Calls P f args w R) : ∃ e w', R e w' :=
  let ⟨e, w', _, hR, _⟩ := h []
  ⟨e, w', hR⟩

theorem MemStep.some {o : Oper} {a : Act} {w : World} {R : Value → World → Prop} (h : MemStep P ops o a w R) : ∃ v w', R v w' := by
  obtain ⟨_, h⟩ := h
  generalize (execOp a.eval o).run P w = r at *
  cases r with
  | ok n w' =>
    cases n <;> simp only [memUpon] at h
    case value u => exact ⟨u, w', h⟩
    case enter f args =>
      obtain ⟨e, w'', v, _, hR⟩ := Calls.some h
      exact ⟨v, w'', hR⟩
  | halt x w' => simp only [memUpon] at h

theorem wpOp_of_det {Q : Exit → Act → World → Prop} {i : Nat} {o : Oper} {a : Act} {w : World} {v : Value} {K : Act → World → Prop} (ho : ops[i]? = some o) (h : DetStep P ops o a w v) (hK : K (a.put o.dst v) w) : wpOp P ops Q i K a w := by
  unfold wpOp
  simp only [ho]
  unfold DetStep at h
  split
  · rename_i hw
    rw [if_pos hw] at h
    refine .inl ?_
    unfold Oper.wp
    generalize (execOp a.eval o).run P w = r at *
    cases r with
    | ok n w' =>
      cases n <;> simp only [detUpon] at h <;> simp only [Oper.upon]
      · rw [h.1, h.2]; exact hK
      · rw [h.1, ← h.2]; exact hK
    | halt x w' => simp only [detUpon] at h
  · rename_i hw
    rw [if_neg hw] at h
    rw [← h]; exact hK

theorem wpOp_of_mem {Q : Exit → Act → World → Prop} {i : Nat} {o : Oper} {a : Act} {w : World} {R : Value → World → Prop} {K : Act → World → Prop} (ho : ops[i]? = some o) (h : MemStep P ops o a w R) (hK : ∀ v w', R v w' → K (a.put o.dst v) w') : wpOp P ops Q i K a w := by
  obtain ⟨hw, h⟩ := h
  unfold wpOp
  simp only [ho, hw, if_true]
  refine .inl ?_
  unfold Oper.wp
  generalize (execOp a.eval o).run P w = r at *
  cases r with
  | ok n w' =>
    cases n <;> simp only [memUpon] at h <;> simp only [Oper.upon]
    case value u => exact hK _ _ h
    case enter f args => exact h.mono fun e w'' ⟨v, he, hR⟩ => by subst he; exact hK _ _ hR
  | halt x w' => simp only [memUpon] at h

def argsOf (o : Oper) (a : Act) : List Value := o.op.operands.toList.map a.eval

theorem Agree.args {o : Oper} {a b : Act} (h : Agree ops o a b) : argsOf o a = argsOf o b :=
  List.map_congr_left fun x hx => h.eval x (by simpa using hx)

/-- The walk in the order of the text. 'Cl i': in which worlds operation i must yield its value. 'E': what is shown at the end. -/
def walkP (P : Program) (ops : Array Oper) (w0 : World) (Cl : Nat → World → Prop) (Φ : Nat → List Value → Value → Nat → Nat → World → Prop) (ism : Nat → Bool) (D : Nat → Nat → Bool) (E : Act → World → Prop) : List Oper → Nat → Act → List (Nat × (World → Prop)) → List (Nat × Nat) → Prop
  | [], _, a, F, I => ∀ w, Below w0.heap.size w0 w → (∀ p ∈ F, p.2 w) → (∀ q ∈ I, q.2 ≤ w.heap.size) → I.Pairwise (fun p q => p.2 ≤ q.1 ∨ q.2 ≤ p.1) → E a w
  | o :: rest, i, a, F, I =>
    if ism i then
      (∀ w, Below w0.heap.size w0 w → (∀ p ∈ F, D i p.1 = true → p.2 w) → MemStep P ops o a w (fun v w' => Below w.heap.size w w' ∧ Φ i (argsOf o a) v w.heap.size w'.heap.size w')) ∧
      ∀ v lo hi, w0.heap.size ≤ lo → lo ≤ hi → (∃ w, Φ i (argsOf o a) v lo hi w) → walkP P ops w0 Cl Φ ism D E rest (i + 1) (a.put o.dst v) ((i, Φ i (argsOf o a) v lo hi) :: F) ((lo, hi) :: I)
    else ∃ v, (∀ w, Cl i w → DetStep P ops o a w v) ∧ walkP P ops w0 Cl Φ ism D E rest (i + 1) (a.put o.dst v) F I

/-- An operation that is no call of a Go function, no defer. -/
def tame (o : Oper) : Bool := match o.op with
  | .move _ | .assign _ | .pick .. | .load .. | .binOp .. | .unOp .. | .fieldAddr .. | .field .. | .indexAddr .. | .index .. | .build .. | .lookup .. | .slice .. | .extract .. | .makeInterface .. | .convert .. | .makeFunc .. | .nilCheck .. => true
  | .store .. | .mapUpdate .. | .insert .. | .mapEntry .. | .entryStore .. | .box .. | .alloc .. | .buildSlice .. | .makeMap .. | .makeSlice .. => true
  | .call { callee := .builtin .len, .. } | .call { callee := .builtin .min, .. } | .call { callee := .builtin .max, .. } | .call { callee := .builtin .append, .. } | .call { callee := .builtin .copy, .. } | .call { callee := .builtin .delete, .. } => true
  | _ => false

theorem run_v {P : Program} (s : Sem Value) (w : World) : (∃ v w', (do pure (Next.value (← s)) : Sem Next).run P w = .ok (.value v) w') ∨ (∃ w', (do pure (Next.value (← s)) : Sem Next).run P w = .ok .skip w') ∨ ∃ x w', (do pure (Next.value (← s)) : Sem Next).run P w = .halt x w' := by
  simp only [Sem.run_bind, Sem.run_pure]
  cases s.run P w with
  | ok v w' => exact .inl ⟨v, w', rfl⟩
  | halt x w' => exact .inr (.inr ⟨x, w', rfl⟩)
theorem run_u {P : Program} (s : Sem Unit) (w : World) : (∃ v w', (do s; pure Next.skip : Sem Next).run P w = .ok (.value v) w') ∨ (∃ w', (do s; pure Next.skip : Sem Next).run P w = .ok .skip w') ∨ ∃ x w', (do s; pure Next.skip : Sem Next).run P w = .halt x w' := by
  simp only [Sem.run_bind, Sem.run_pure]
  cases s.run P w with
  | ok v w' => exact .inr (.inl ⟨w', rfl⟩)
  | halt x w' => exact .inr (.inr ⟨x, w', rfl⟩)

theorem tame_run {P : Program} {o : Oper} (h : tame o = true) (ρ : Operand → Value) (w : World) : (∃ v w', (execOp ρ o).run P w = .ok (.value v) w') ∨ (∃ w', (execOp ρ o).run P w = .ok .skip w') ∨ ∃ x w', (execOp ρ o).run P w = .halt x w' := by
  obtain ⟨dst, op, type, pos, after, guard⟩ := o
  cases op <;> simp only [tame, Bool.false_eq_true] at h <;> simp only [execOp]
  case call c =>
    obtain ⟨callee, xs, ts⟩ := c
    cases callee
    case builtin b =>
      have hb : execOp ρ { dst := dst, op := .call { callee := .builtin b, args := xs, argTypes := ts }, type := type, pos := pos, after := after, guard := guard } = builtin b ts type (xs.map fun | .const _ => true | _ => false) (xs.map ρ) := rfl
      simp only [execOp] at hb
      rw [hb]
      cases b <;> first | (exact run_v _ _) | (exact absurd h Bool.false_ne_true)
    all_goals exact absurd h Bool.false_ne_true
  case pick c x y =>
    simp only [Sem.run_bind, Sem.run_pure]
    cases (asBool (ρ c)).run P w with
    | ok v w' => exact .inl ⟨_, w', rfl⟩
    | halt x w' => exact .inr (.inr ⟨x, w', rfl⟩)
  case nilCheck x =>
    split
    · exact .inr (.inr ⟨_, _, rfl⟩)
    · exact .inr (.inr ⟨_, _, rfl⟩)
    · exact .inr (.inr ⟨_, _, rfl⟩)
    · split
      · exact .inr (.inr ⟨_, _, rfl⟩)
      · simp only [Sem.run_bind]
        generalize Sem.run P program w = r1
        cases r1 with
        | halt x w' => exact .inr (.inr ⟨x, w', rfl⟩)
        | ok v w' =>
          simp only [Result.andThen_ok]
          generalize Sem.run P (nilAhead _ _ _ _) w' = r2
          cases r2 with
          | halt x w' => exact .inr (.inr ⟨x, w', rfl⟩)
          | ok v w' =>
            simp only [Result.andThen_ok]
            split
            · exact .inr (.inr ⟨_, _, rfl⟩)
            · exact .inl ⟨_, _, rfl⟩
      · exact .inl ⟨_, _, rfl⟩
    · exact .inl ⟨_, _, rfl⟩
  all_goals first
    | exact run_v _ _
    | exact run_u _ _
    | exact .inl ⟨_, _, rfl⟩

/-- The operations behind, one by one, in the order of the text; each leaves a world of C'. -/
def tailW (P : Program) (ops : Array Oper) (C' : World → Prop) (Q : Exit → Act → World → Prop) : List Oper → Act → World → Prop
  | [], a, w => Q .normal a w
  | o :: rest, a, w => Region.wanted o (yielded ops a.tmps) = true ∧ tame o = true ∧ o.wp P a w (fun a' w' => C' w' ∧ tailW P ops C' Q rest a' w') (fun _ _ _ => False)

theorem wp_agree {o : Oper} (hs : ∀ cs b, o.op ≠ .select cs b) (ht : tame o = true) {a b : Act} (h : Agree ops o a b) {w : World} {K : Act → World → Prop} {Q : Exit → Act → World → Prop} (hw : o.wp P a w K (fun _ _ _ => False)) :
    o.wp P b w (fun b' w' => ∃ v, b' = b.put o.dst v ∧ K (a.put o.dst v) w') Q := by
  unfold Oper.wp at *
  have hr := tame_run (P := P) ht a.eval w
  rw [← execOp_congr o hs h.eval]
  generalize (execOp a.eval o).run P w = r at *
  rcases hr with ⟨v, w', rfl⟩ | ⟨w', rfl⟩ | ⟨x, w', rfl⟩
  · exact ⟨v, rfl, hw⟩
  · exact ⟨undef, rfl, hw⟩
  · cases x <;> simp only [Oper.upon] at hw

def dm (m : List Nat) (i j : Nat) : Bool := (m.getD i 0).testBit j

def chk (ops : Array Oper) (m : List Nat) : Bool :=
  Region.noSelect ops && (List.range ops.size).all fun i => match ops[i]? with
    | none => true
    | some o =>
      (o.after.all fun e => !Region.binds .any e || (decide (e.on < i) && dm m i e.on)) &&
      ((List.range ops.size).all fun j => (!dm m i j || (decide (j < i) && ((List.range ops.size).all fun k => !dm m j k || dm m i k) && o.after.any fun e => Region.binds .any e && (e.on == j || dm m e.on j))) && (decide (i ≤ j) || dm m i j || match ops[j]? with | some oj => o.apart ops oj | none => true))

structure Chk (ops : Array Oper) (D : Nat → Nat → Bool) : Prop where
  sel : ∀ (j : Nat) (o : Oper) cs b, ops[j]? = some o → o.op ≠ .select cs b
  edge : ∀ (i : Nat) (o : Oper), ops[i]? = some o → ∀ e ∈ o.after, Region.binds .any e = true → e.on < i ∧ D i e.on = true
  lt : ∀ i j, i < ops.size → j < ops.size → D i j = true → j < i
  trans : ∀ i j k, i < ops.size → j < ops.size → k < ops.size → D i j = true → D j k = true → D i k = true
  gen : ∀ (i : Nat) (o : Oper), ops[i]? = some o → ∀ j, j < ops.size → D i j = true → ∃ e ∈ o.after, Region.binds .any e = true ∧ (e.on = j ∨ D e.on j = true)
  apart : ∀ (i j : Nat) (oi oj : Oper), ops[i]? = some oi → ops[j]? = some oj → j < i → D i j = false → oi.apart ops oj = true

theorem chk_spec {m : List Nat} (h : chk ops m = true) : Chk ops (dm m) := by
  unfold chk at h
  simp only [Bool.and_eq_true, List.all_eq_true, List.mem_range] at h
  obtain ⟨hs, h⟩ := h
  have one : ∀ (i : Nat) (o : Oper), ops[i]? = some o → _ := fun i o ho => by
    have hi : i < ops.size := (Array.getElem?_eq_some_iff.1 ho).1
    have := h i hi
    rw [ho] at this
    simp only [Bool.and_eq_true, List.all_eq_true, List.mem_range, Array.all_eq_true_iff_forall_mem, Bool.or_eq_true, Bool.not_eq_true', decide_eq_true_eq] at this
    exact this
  refine ⟨fun j o cs b ho => Region.noSelect_spec hs j o cs b ho, fun i o ho e he hb => ?_, fun i j hi hj hd => ?_, fun i j k hi hj hk h1 h2 => ?_, fun i o ho j hj hd => ?_, fun i j oi oj hoi hoj hji hd => ?_⟩
  · rcases (one i o ho).1 e he with h1 | h1
    · rw [hb] at h1; cases h1
    · exact h1
  · obtain ⟨o, ho⟩ : ∃ o, ops[i]? = some o := ⟨_, Array.getElem?_eq_getElem hi⟩
    rcases ((one i o ho).2 j hj).1 with h1 | h1
    · rw [hd] at h1; cases h1
    · exact h1.1.1
  · obtain ⟨o, ho⟩ : ∃ o, ops[i]? = some o := ⟨_, Array.getElem?_eq_getElem hi⟩
    rcases ((one i o ho).2 j hj).1 with h3 | h3
    · rw [h1] at h3; cases h3
    · rcases h3.1.2 k hk with h4 | h4
      · rw [h2] at h4; cases h4
      · exact h4
  · rcases ((one i o ho).2 j hj).1 with h1 | h1
    · rw [hd] at h1; cases h1
    · obtain ⟨e, he, hb⟩ := Array.any_eq_true'.1 h1.2
      simp only [Bool.and_eq_true, Bool.or_eq_true, beq_iff_eq] at hb
      exact ⟨e, he, hb.1, hb.2⟩
  · have hj : j < ops.size := (Array.getElem?_eq_some_iff.1 hoj).1
    rcases ((one i oi hoi).2 j hj).2 with (h1 | h1) | h1
    · omega
    · rw [hd] at h1; cases h1
    · rw [hoj] at h1; exact h1

end

end Go.Proofs.YtfhikjmddclmgaaGreatDoor
