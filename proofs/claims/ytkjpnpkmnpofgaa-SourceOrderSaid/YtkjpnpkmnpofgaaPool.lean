/- The memory of the sources while they are made: each block has a colour, which tells the part that it belongs to. -/
import Derived.Test.YtkjpnpkmnpofgaaOwn
import Derived.Test.YtkjpnpkmnpofgaaMap
namespace Go.Proofs.Ytkjpnpkmnpofgaa
open Go.RowKit

/-- The parts. -/
inductive Tg
  | ro | obj | hm | um | fm | km | rules | head (x : Int) | use (x : Int)
  deriving DecidableEq

def Col (κ : Nat → Tg) (t : Tg) (v : Value) : Prop := ∀ g, v.ownBlock = some g → κ g = t

/-- From w to w' only blocks of colour t have turned. -/
structure Turn (κ : Nat → Tg) (t : Tg) (w w' : World) : Prop where
  size : w.heap.size ≤ w'.heap.size
  block : ∀ i, i < w.heap.size → κ i ≠ t → w'.heap[i]? = w.heap[i]?

/-- Two colourings agree on what there is. -/
def Agr (κ κ' : Nat → Tg) (w : World) : Prop := ∀ i, i < w.heap.size → κ' i = κ i

section
variable {κ κ' : Nat → Tg} {t s : Tg} {w w' : World} {H : Nat}

theorem Turn.of_grown {row : Option Nat} (h : w.grownBy w' row) (hr : ∀ g, row = some g → κ g = t) : Turn κ t w w' :=
  ⟨h.size, fun i hi hk => h.block i hi (fun e => hk (hr i e.symm))⟩

theorem Turn.setCell (b o : Nat) (v : Value) (hb : κ b = t) : Turn κ t w (w.setCell ⟨b, o, none⟩ v) :=
  ⟨by simp [World.setCell], fun i _ hk => Below.heap_setCell _ _ _ _ (by rintro rfl; exact hk hb)⟩

theorem Col.mono {base E bytes n : Nat} {f : Nat → Value} {v : Value} (h : Col κ t v) (ho : Own1 base E bytes w v n f) (ha : Agr κ κ' w) : Col κ' t v := by
  intro g hg
  rcases ho.1.2 with ⟨rfl, _⟩ | ⟨g', cap, cur, rfl, _, hgg, _⟩
  · cases hg
  · have : g' = g := by simpa [Value.ownBlock] using hg
    subst this
    rw [ha _ (Array.getElem?_eq_some_iff.1 hgg).1]
    exact h _ hg

theorem rowTurn {base E size n : Nat} {xs : List Value} {v : Value} (h : w.ownsRow base E size v n xs) (hc : Col κ s v) (ht : Turn κ t w w') (hne : s ≠ t) : w'.ownsRow base E size v n xs := by
  refine ⟨h.1, ?_⟩
  rcases h.2 with hn | ⟨g, cap, cur, rfl, hb, hgg, rest⟩
  · exact .inl hn
  · refine .inr ⟨g, cap, cur, rfl, hb, ?_, rest⟩
    rw [ht.block g (Array.getElem?_eq_some_iff.1 hgg).1 (by rw [hc g rfl]; exact hne)]
    exact hgg

theorem rowCol {base E size n : Nat} {xs : List Value} {v : Value} (h : w.ownsRow base E size v n xs) (hc : Col κ t v) (ha : Agr κ κ' w) : Col κ' t v := by
  intro g hg
  rcases h.2 with ⟨rfl, _⟩ | ⟨g', cap, cur, rfl, _, hgg, _⟩
  · cases hg
  · have : g' = g := by simpa [Value.ownBlock] using hg
    subst this
    rw [ha _ (Array.getElem?_eq_some_iff.1 hgg).1]
    exact hc _ hg

theorem Own1.turn {base E bytes n : Nat} {f : Nat → Value} {v : Value} (h : Own1 base E bytes w v n f) (hc : Col κ s v) (ht : Turn κ t w w') (hne : s ≠ t) : Own1 base E bytes w' v n f := ⟨rowTurn h.1 hc ht hne, h.2⟩
theorem OwnI.turn {base : Nat} {l : List Int} {v : Value} (h : OwnI base w v l) (hc : Col κ s v) (ht : Turn κ t w w') (hne : s ≠ t) : OwnI base w' v l := ⟨h.1.turn hc ht hne, h.2⟩
theorem OwnS.turn {base : Nat} {l : List ByteArray} {v : Value} (h : OwnS base w v l) (hc : Col κ s v) (ht : Turn κ t w w') (hne : s ≠ t) : OwnS base w' v l := ⟨h.1.turn hc ht hne, h.2⟩
theorem Blk.turn {b : Nat} {c : List Value} {T : TypeId} (h : Blk w b c T) (hb : κ b = s) (ht : Turn κ t w w') (hne : s ≠ t) : Blk w' b c T := h.same (ht.block b h.lt (by rw [hb]; exact hne))
theorem MapIs.turn {b : Nat} {g : Int → Option Value} (h : MapIs (Value.int .i64) w b g) (hb : κ b = s) (ht : Turn κ t w w') (hne : s ≠ t) : MapIs (Value.int .i64) w' b g := h.same (ht.block b h.lt (by rw [hb]; exact hne))

/-- Values in new blocks have the new blocks' colour. -/
theorem Col.fresh {base E bytes n : Nat} {f : Nat → Value} {v : Value} (ho : Own1 base E bytes w v n f) (hk : ∀ i, base ≤ i → κ i = t) : Col κ t v := by
  intro g hg
  rcases ho.1.2 with ⟨rfl, _⟩ | ⟨g', cap, cur, rfl, hb, hgg, _⟩
  · cases hg
  · have : g' = g := by simpa [Value.ownBlock] using hg
    subst this
    exact hk _ hb

end

/-! ### A map of rows of ints -/
def nilS : Value := .slice none 0 0

structure RowsM (κ : Nat → Tg) (tg : Int → Tg) (tm : Tg) (H : Nat) (bm : Nat) (g : Int → Option Value) (R : Int → List Int) (w : World) : Prop where
  map : MapIs (Value.int .i64) w bm g
  mapk : κ bm = tm
  row : ∀ x, OwnI H w ((g x).getD nilS) (R x)
  rowk : ∀ x, Col κ (tg x) ((g x).getD nilS)

section
variable {κ κ' : Nat → Tg} {t tm : Tg} {tg : Int → Tg} {w w' : World} {H bm : Nat} {g : Int → Option Value} {R : Int → List Int}

theorem ownNil (H : Nat) (w : World) : OwnI H w nilS [] := ⟨⟨World.ownsRow_nil _ _ _ _, by simp⟩, fun i => by simp [ix]⟩

theorem RowsM.new (h : MapIs (Value.int .i64) w bm (fun _ => none)) (hk : κ bm = tm) : RowsM κ tg tm H bm (fun _ => none) (fun _ => []) w :=
  ⟨h, hk, fun x => ownNil H w, fun x g hg => by cases hg⟩

theorem RowsM.below (h : RowsM κ tg tm H bm g R w) (hb : Below w.heap.size w w') : RowsM κ tg tm H bm g R w' :=
  ⟨h.map.below hb, h.mapk, fun x => (h.row x).below hb, h.rowk⟩

theorem RowsM.recol (h : RowsM κ tg tm H bm g R w) (ha : Agr κ κ' w) : RowsM κ' tg tm H bm g R w :=
  ⟨h.map, (ha _ h.map.lt).trans h.mapk, h.row, fun x => (h.rowk x).mono (h.row x).1 ha⟩

theorem RowsM.turn (h : RowsM κ tg tm H bm g R w) (ht : Turn κ t w w') (h1 : tm ≠ t) (h2 : ∀ x, tg x ≠ t) : RowsM κ tg tm H bm g R w' :=
  ⟨h.map.turn h.mapk ht h1, h.mapk, fun x => (h.row x).turn (h.rowk x) ht (h2 x), h.rowk⟩

def pushR (R : Int → List Int) (x k : Int) : Int → List Int := fun y => if y = x then R y ++ [k] else R y

theorem ix_append (l : List Int) (k : Int) : (List.range (l ++ [k]).length).map (fun i => Value.int .i64 (ix (l ++ [k]) i)) = (List.range l.length).map (fun i => Value.int .i64 (ix l i)) ++ [.int .i64 k] := by
  rw [List.length_append, List.length_singleton, List.range_succ, List.map_append]
  congr 1
  · refine List.map_congr_left fun i hi => ?_
    have : i < l.length := by simpa using hi
    simp [ix, List.getElem?_append_left this]
  · simp [ix]

theorem Fits.push {l : List Int} {k : Int} (h : Fits l) (hk : InI k) : Fits (l ++ [k]) := by
  intro i
  rcases Nat.lt_trichotomy i l.length with h1 | h1 | h1
  · have := h i
    simpa [ix, List.getElem?_append_left h1] using this
  · subst h1
    simpa [ix, InI] using hk
  · simp [ix, List.getElem?_eq_none (show (l ++ [k]).length ≤ i by simp; omega)]

/-- The colouring with one block more. -/
def paint (κ : Nat → Tg) (g : Nat) (t : Tg) : Nat → Tg := fun i => if i = g then t else κ i

theorem paint_agr {v : Value} {gg : Nat} (hc : Col κ t v) (hl : v.ownBlock = some gg ∨ gg = w.heap.size) : Agr κ (paint κ gg t) w := by
  intro i hi
  unfold paint
  split
  · rename_i e
    subst e
    rcases hl with h | h
    · exact (hc _ h).symm
    · omega
  · rfl

/-- A row is appended to, and stored again. -/
theorem RowsM.push (inj : ∀ x y, tg x = tg y → x = y) (hne : ∀ x, tg x ≠ tm) (h : RowsM κ tg tm H bm g R w) (x k : Int) (hk : InI k) {gg cap : Nat} {w1 w2 : World}
    (hlen : ((R x).length + 1) * 8 ≤ 140737488351232)
    (hown : w1.ownsRow H 3 1 (.slice (some ⟨gg, 0, none⟩) ((R x).length + 1) cap) ((R x).length + 1) ((List.range (R x).length).map (fun i => Value.int .i64 (ix (R x) i)) ++ [.int .i64 k]))
    (hg : w.grownBy w1 ((g x).getD nilS).ownBlock) (hl : ((g x).getD nilS).ownBlock = some gg ∨ gg = w.heap.size)
    (hm : MapIs (Value.int .i64) w2 bm (upd g x (some (.slice (some ⟨gg, 0, none⟩) ((R x).length + 1) cap)))) (hg2 : w1.grownBy w2 (some bm)) :
    Agr κ (paint κ gg (tg x)) w ∧ Turn (paint κ gg (tg x)) (tg x) w w1 ∧ Turn (paint κ gg (tg x)) tm w1 w2 ∧
    RowsM (paint κ gg (tg x)) tg tm H bm (upd g x (some (.slice (some ⟨gg, 0, none⟩) ((R x).length + 1) cap))) (pushR R x k) w2 := by
  have ha := paint_agr (w := w) (h.rowk x) hl
  have h1 : RowsM (paint κ gg (tg x)) tg tm H bm g R w := h.recol ha
  have t1 : Turn (paint κ gg (tg x)) (tg x) w w1 := .of_grown hg (h1.rowk x)
  have t2 : Turn (paint κ gg (tg x)) tm w1 w2 := .of_grown hg2 (fun b e => by cases e; exact h1.mapk)
  refine ⟨ha, t1, t2, hm, h1.mapk, fun y => ?_, fun y => ?_⟩
  · by_cases hy : y = x
    · subst hy
      rw [upd_same]
      simp only [Option.getD_some, pushR, if_true]
      refine ⟨⟨?_, by simpa using hlen⟩, (h.row y).2.push hk⟩
      rw [ix_append]
      have : (R y ++ [k]).length = (R y).length + 1 := by simp
      rw [this]
      exact rowTurn hown (s := tg y) (κ := paint κ gg (tg y)) (fun b e => by simp only [Value.ownBlock, Option.some.injEq] at e; subst e; simp [paint]) t2 (hne y)
    · rw [upd_other _ _ hy]
      simp only [pushR, if_neg hy]
      exact ((h1.row y).turn (h1.rowk y) t1 (fun e => hy (inj _ _ e))).turn (h1.rowk y) t2 (hne y)
  · by_cases hy : y = x
    · subst hy
      rw [upd_same]
      intro b e
      simp only [Option.getD_some, Value.ownBlock, Option.some.injEq] at e; subst e; simp [paint]
    · rw [upd_other _ _ hy]
      exact h1.rowk y

end

/-- What is not of a row's colour does not turn when the row is appended to. -/
theorem RowsM.far {κ : Nat → Tg} {tg : Int → Tg} {tm s : Tg} {H bm b : Nat} {g : Int → Option Value} {R : Int → List Int} {w w' : World} (h : RowsM κ tg tm H bm g R w) (hs : κ b = s) (hne : ∀ x, tg x ≠ s) (x : Int) (hg : w.grownBy w' ((g x).getD nilS).ownBlock) (hb : b < w.heap.size) : w'.heap[b]? = w.heap[b]? :=
  hg.block b hb (fun e => hne x ((h.rowk x b e.symm).symm.trans hs))

/-! ### The rules -/
abbrev RQ := GR × Value × Value × Value

def cells6 (q : RQ) : List Value := [.bool q.1.choice, q.2.1, .bool q.1.sum, .int .i64 q.1.bound, q.2.2.1, q.2.2.2]

structure RuleOwn (κ : Nat → Tg) (H : Nat) (w : World) (q : RQ) : Prop where
  head : OwnI H w q.2.1 q.1.head
  body : OwnI H w q.2.2.1 q.1.body
  wts : OwnI H w q.2.2.2 q.1.w
  bound : InI q.1.bound
  headk : Col κ .ro q.2.1
  bodyk : Col κ .ro q.2.2.1
  wtsk : Col κ .ro q.2.2.2

structure RulesOwn (κ : Nat → Tg) (H : Nat) (v : Value) (L : List RQ) (w : World) : Prop where
  row : w.ownsRow H 44 6 v L.length (L.flatMap cells6)
  rowk : Col κ .rules v
  each : ∀ q ∈ L, RuleOwn κ H w q
  fit : L.length * 88 ≤ 140737488351232

section
variable {κ κ' : Nat → Tg} {t : Tg} {w w' : World} {H : Nat} {v : Value} {L : List RQ} {q : RQ}

theorem RuleOwn.below (h : RuleOwn κ H w q) (hb : Below w.heap.size w w') : RuleOwn κ H w' q := ⟨h.head.below hb, h.body.below hb, h.wts.below hb, h.bound, h.headk, h.bodyk, h.wtsk⟩
theorem RuleOwn.recol (h : RuleOwn κ H w q) (ha : Agr κ κ' w) : RuleOwn κ' H w q := ⟨h.head, h.body, h.wts, h.bound, h.headk.mono h.head.1 ha, h.bodyk.mono h.body.1 ha, h.wtsk.mono h.wts.1 ha⟩
theorem RuleOwn.turn (h : RuleOwn κ H w q) (ht : Turn κ t w w') (hne : Tg.ro ≠ t) : RuleOwn κ H w' q := ⟨h.head.turn h.headk ht hne, h.body.turn h.bodyk ht hne, h.wts.turn h.wtsk ht hne, h.bound, h.headk, h.bodyk, h.wtsk⟩

theorem rowBelow {base E size n : Nat} {xs : List Value} (h : w.ownsRow base E size v n xs) (hb : Below w.heap.size w w') : w'.ownsRow base E size v n xs :=
  h.kept (row := none) ⟨hb.os, hb.tape, hb.output, hb.size, fun k hk _ => hb.block k hk⟩ (by cases v.ownBlock <;> simp)

theorem RulesOwn.below (h : RulesOwn κ H v L w) (hb : Below w.heap.size w w') : RulesOwn κ H v L w' := ⟨rowBelow h.row hb, h.rowk, fun q hq => (h.each q hq).below hb, h.fit⟩
theorem RulesOwn.recol (h : RulesOwn κ H v L w) (ha : Agr κ κ' w) : RulesOwn κ' H v L w := ⟨h.row, rowCol h.row h.rowk ha, fun q hq => (h.each q hq).recol ha, h.fit⟩
theorem RulesOwn.turn (h : RulesOwn κ H v L w) (ht : Turn κ t w w') (h1 : Tg.ro ≠ t) (h2 : Tg.rules ≠ t) : RulesOwn κ H v L w' := ⟨rowTurn h.row h.rowk ht h2, h.rowk, fun q hq => (h.each q hq).turn ht h1, h.fit⟩

theorem RulesOwn.nil (κ : Nat → Tg) (H : Nat) (w : World) : RulesOwn κ H nilS [] w := ⟨World.ownsRow_nil _ _ _ _, (fun g hg => by cases hg), (by simp), by simp⟩

/-- A rule is appended. -/
theorem RulesOwn.push (h : RulesOwn κ H v L w) (hq : RuleOwn κ H w q) {gg cap : Nat} {w1 : World} (hlen : (L.length + 1) * 88 ≤ 140737488351232)
    (hown : w1.ownsRow H 44 6 (.slice (some ⟨gg, 0, none⟩) (L.length + 1) cap) (L.length + 1) (L.flatMap cells6 ++ cells6 q))
    (hg : w.grownBy w1 v.ownBlock) (hl : v.ownBlock = some gg ∨ gg = w.heap.size) :
    Agr κ (paint κ gg .rules) w ∧ Turn (paint κ gg .rules) .rules w w1 ∧ RulesOwn (paint κ gg .rules) H (.slice (some ⟨gg, 0, none⟩) (L.length + 1) cap) (L ++ [q]) w1 := by
  have ha := paint_agr (w := w) h.rowk hl
  have h1 := h.recol ha
  have hq1 := hq.recol ha
  have t1 : Turn (paint κ gg .rules) .rules w w1 := .of_grown hg h1.rowk
  refine ⟨ha, t1, ⟨?_, fun b e => by simp only [Value.ownBlock, Option.some.injEq] at e; subst e; simp [paint], fun q' hq' => ?_, by simpa using hlen⟩⟩
  · have e : (L ++ [q]).flatMap cells6 = L.flatMap cells6 ++ cells6 q := by simp
    rw [e, List.length_append, List.length_singleton]
    exact hown
  · rcases List.mem_append.1 hq' with hq' | hq'
    · exact (h1.each q' hq').turn t1 (by simp)
    · simp only [List.mem_singleton] at hq'
      subst hq'
      exact hq1.turn t1 (by simp)

end

/-! ### The whole -/
structure NS (κ : Nat → Tg) (H : Nat) (p : GP) (b bh bu bf bk : Nat) (vn vr : Value) (gh gu : Int → Option Value) (Rh Ru : Int → List Int) (L : List RQ) (X : List (Nat × List Value)) (w : World) : Prop where
  obj : Blk w b [.int .i64 p.n, vn, nilS, vr, nilS, .map (some bh), .map (some bu), .map (some bf), .map (some bk), .int .i64 0, nilS] 54
  objk : κ b = .obj
  heads : RowsM κ .head .hm H bh gh Rh w
  uses : RowsM κ .use .um H bu gu Ru w
  frm : MapIs (Value.int .i64) w bf (fun _ => none)
  frmk : κ bf = .fm
  rank : MapIs (Value.int .i64) w bk (fun _ => none)
  rankk : κ bk = .km
  names : OwnS H w vn p.names
  namesk : Col κ .ro vn
  rules : RulesOwn κ H vr L w
  lo : H ≤ b ∧ H ≤ bh ∧ H ≤ bu ∧ H ≤ bf ∧ H ≤ bk
  box : ∀ e ∈ X, Blk w e.1 e.2 44 ∧ κ e.1 = .ro

section
variable {κ κ' : Nat → Tg} {t : Tg} {w w' : World} {H b bh bu bf bk : Nat} {p : GP} {vn vr : Value} {gh gu : Int → Option Value} {Rh Ru : Int → List Int} {L : List RQ} {X : List (Nat × List Value)}

theorem NS.below (h : NS κ H p b bh bu bf bk vn vr gh gu Rh Ru L X w) (hb : Below w.heap.size w w') : NS κ H p b bh bu bf bk vn vr gh gu Rh Ru L X w' :=
  ⟨h.obj.below hb, h.objk, h.heads.below hb, h.uses.below hb, h.frm.below hb, h.frmk, h.rank.below hb, h.rankk, h.names.below hb, h.namesk, h.rules.below hb, h.lo, fun e he => ⟨(h.box e he).1.below hb, (h.box e he).2⟩⟩

theorem NS.recol (h : NS κ H p b bh bu bf bk vn vr gh gu Rh Ru L X w) (ha : Agr κ κ' w) : NS κ' H p b bh bu bf bk vn vr gh gu Rh Ru L X w :=
  ⟨h.obj, (ha _ h.obj.lt).trans h.objk, h.heads.recol ha, h.uses.recol ha, h.frm, (ha _ h.frm.lt).trans h.frmk, h.rank, (ha _ h.rank.lt).trans h.rankk, h.names, h.namesk.mono h.names.1 ha, h.rules.recol ha, h.lo, fun e he => ⟨(h.box e he).1, (ha _ (h.box e he).1.lt).trans (h.box e he).2⟩⟩

theorem NS.pushHead (h : NS κ H p b bh bu bf bk vn vr gh gu Rh Ru L X w) (x k : Int) (hk : InI k) {gg cap : Nat} {w1 w2 : World}
    (hlen : ((Rh x).length + 1) * 8 ≤ 140737488351232)
    (hown : w1.ownsRow H 3 1 (.slice (some ⟨gg, 0, none⟩) ((Rh x).length + 1) cap) ((Rh x).length + 1) ((List.range (Rh x).length).map (fun i => Value.int .i64 (ix (Rh x) i)) ++ [.int .i64 k]))
    (hg : w.grownBy w1 ((gh x).getD nilS).ownBlock) (hl : ((gh x).getD nilS).ownBlock = some gg ∨ gg = w.heap.size)
    (hm : MapIs (Value.int .i64) w2 bh (upd gh x (some (.slice (some ⟨gg, 0, none⟩) ((Rh x).length + 1) cap)))) (hg2 : w1.grownBy w2 (some bh)) :
    ∃ κ' gh', NS κ' H p b bh bu bf bk vn vr gh' gu (pushR Rh x k) Ru L X w2 := by
  obtain ⟨ha, t1, t2, hR⟩ := h.heads.push (fun a b e => by cases e; rfl) (fun a e => by cases e) x k hk hlen hown hg hl hm hg2
  have h1 := h.recol ha
  exact ⟨_, _, (h1.obj.turn h1.objk t1 (by simp)).turn h1.objk t2 (by simp), h1.objk, hR, (h1.uses.turn t1 (by simp) (by simp)).turn t2 (by simp) (by simp),
    (h1.frm.turn h1.frmk t1 (by simp)).turn h1.frmk t2 (by simp), h1.frmk, (h1.rank.turn h1.rankk t1 (by simp)).turn h1.rankk t2 (by simp), h1.rankk,
    (h1.names.turn h1.namesk t1 (by simp)).turn h1.namesk t2 (by simp), h1.namesk, (h1.rules.turn t1 (by simp) (by simp)).turn t2 (by simp) (by simp), h1.lo, fun e he => ⟨((h1.box e he).1.turn (h1.box e he).2 t1 (by simp)).turn (h1.box e he).2 t2 (by simp), (h1.box e he).2⟩⟩

theorem NS.pushUse (h : NS κ H p b bh bu bf bk vn vr gh gu Rh Ru L X w) (x k : Int) (hk : InI k) {gg cap : Nat} {w1 w2 : World}
    (hlen : ((Ru x).length + 1) * 8 ≤ 140737488351232)
    (hown : w1.ownsRow H 3 1 (.slice (some ⟨gg, 0, none⟩) ((Ru x).length + 1) cap) ((Ru x).length + 1) ((List.range (Ru x).length).map (fun i => Value.int .i64 (ix (Ru x) i)) ++ [.int .i64 k]))
    (hg : w.grownBy w1 ((gu x).getD nilS).ownBlock) (hl : ((gu x).getD nilS).ownBlock = some gg ∨ gg = w.heap.size)
    (hm : MapIs (Value.int .i64) w2 bu (upd gu x (some (.slice (some ⟨gg, 0, none⟩) ((Ru x).length + 1) cap)))) (hg2 : w1.grownBy w2 (some bu)) :
    ∃ κ' gu', NS κ' H p b bh bu bf bk vn vr gh gu' Rh (pushR Ru x k) L X w2 := by
  obtain ⟨ha, t1, t2, hR⟩ := h.uses.push (fun a b e => by cases e; rfl) (fun a e => by cases e) x k hk hlen hown hg hl hm hg2
  have h1 := h.recol ha
  exact ⟨_, _, (h1.obj.turn h1.objk t1 (by simp)).turn h1.objk t2 (by simp), h1.objk, (h1.heads.turn t1 (by simp) (by simp)).turn t2 (by simp) (by simp), hR,
    (h1.frm.turn h1.frmk t1 (by simp)).turn h1.frmk t2 (by simp), h1.frmk, (h1.rank.turn h1.rankk t1 (by simp)).turn h1.rankk t2 (by simp), h1.rankk,
    (h1.names.turn h1.namesk t1 (by simp)).turn h1.namesk t2 (by simp), h1.namesk, (h1.rules.turn t1 (by simp) (by simp)).turn t2 (by simp) (by simp), h1.lo, fun e he => ⟨((h1.box e he).1.turn (h1.box e he).2 t1 (by simp)).turn (h1.box e he).2 t2 (by simp), (h1.box e he).2⟩⟩

/-- A rule is appended, and the slice stored. -/
theorem NS.pushRule (h : NS κ H p b bh bu bf bk vn vr gh gu Rh Ru L X w) {q : RQ} (hq : RuleOwn κ H w q) {gg cap : Nat} {w1 : World} (hlen : (L.length + 1) * 88 ≤ 140737488351232)
    (hown : w1.ownsRow H 44 6 (.slice (some ⟨gg, 0, none⟩) (L.length + 1) cap) (L.length + 1) (L.flatMap cells6 ++ cells6 q))
    (hg : w.grownBy w1 vr.ownBlock) (hl : vr.ownBlock = some gg ∨ gg = w.heap.size) :
    ∃ κ', Blk w1 b [.int .i64 p.n, vn, nilS, vr, nilS, .map (some bh), .map (some bu), .map (some bf), .map (some bk), .int .i64 0, nilS] 54 ∧ NS κ' H p b bh bu bf bk vn (.slice (some ⟨gg, 0, none⟩) (L.length + 1) cap) gh gu Rh Ru (L ++ [q]) X (w1.setCell ⟨b, 3, none⟩ (.slice (some ⟨gg, 0, none⟩) (L.length + 1) cap)) := by
  obtain ⟨ha, t1, hR⟩ := h.rules.push hq hlen hown hg hl
  have h1 := h.recol ha
  have t2 : Turn (paint κ gg .rules) .obj w1 (w1.setCell ⟨b, 3, none⟩ (.slice (some ⟨gg, 0, none⟩) (L.length + 1) cap)) := .setCell b 3 _ h1.objk
  exact ⟨_, h1.obj.turn h1.objk t1 (by simp), (h1.obj.turn h1.objk t1 (by simp)).set 3 _, h1.objk, (h1.heads.turn t1 (by simp) (by simp)).turn t2 (by simp) (by simp), (h1.uses.turn t1 (by simp) (by simp)).turn t2 (by simp) (by simp),
    (h1.frm.turn h1.frmk t1 (by simp)).turn h1.frmk t2 (by simp), h1.frmk, (h1.rank.turn h1.rankk t1 (by simp)).turn h1.rankk t2 (by simp), h1.rankk,
    (h1.names.turn h1.namesk t1 (by simp)).turn h1.namesk t2 (by simp), h1.namesk, hR.turn t2 (by simp) (by simp), h1.lo, fun e he => ⟨((h1.box e he).1.turn (h1.box e he).2 t1 (by simp)).turn (h1.box e he).2 t2 (by simp), (h1.box e he).2⟩⟩

theorem NS.addBox (h : NS κ H p b bh bu bf bk vn vr gh gu Rh Ru L X w) (c : List Value) :
    ∃ κ', NS κ' H p b bh bu bf bk vn vr gh gu Rh Ru L ((w.heap.size, c) :: X) (w.alloc (.cells c.toArray 44)) := by
  have ha : Agr κ (paint κ w.heap.size .ro) w := fun i hi => by simp [paint]; intro e; omega
  have h1 := (h.recol ha).below (bal (Below.refl _ _) (.cells c.toArray 44))
  refine ⟨_, ⟨h1.obj, h1.objk, h1.heads, h1.uses, h1.frm, h1.frmk, h1.rank, h1.rankk, h1.names, h1.namesk, h1.rules, h1.lo, fun e he => ?_⟩⟩
  rcases List.mem_cons.1 he with rfl | he
  · exact ⟨Blk.new w c _, by simp [paint]⟩
  · exact h1.box e he

theorem NS.dropBox (h : NS κ H p b bh bu bf bk vn vr gh gu Rh Ru L X w) : NS κ H p b bh bu bf bk vn vr gh gu Rh Ru L [] w :=
  ⟨h.obj, h.objk, h.heads, h.uses, h.frm, h.frmk, h.rank, h.rankk, h.names, h.namesk, h.rules, h.lo, fun e he => by cases he⟩

/-- New blocks may have any colour. -/
theorem NS.fresh (h : NS κ H p b bh bu bf bk vn vr gh gu Rh Ru L X w) (hb : Below w.heap.size w w') : ∃ κ', (∀ i, w.heap.size ≤ i → κ' i = .ro) ∧ NS κ' H p b bh bu bf bk vn vr gh gu Rh Ru L X w' :=
  ⟨fun i => if i < w.heap.size then κ i else .ro, fun i hi => if_neg (by omega), (h.recol (fun i hi => if_pos hi)).below hb⟩

end

/-- A row of the call's own is appended to. -/
theorem belowRow {w0 w w' : World} {base E size n : Nat} {xs : List Value} {v : Value} (hb : Below base w0 w) (ho : w.ownsRow base E size v n xs) (hg : w.grownBy w' v.ownBlock) (hs : base ≤ w.heap.size) : Below base w0 w' := by
  refine hb.trans ⟨hg.os, hg.tape, hg.output, hg.size, fun k hk => hg.block k (by omega) (fun e => ?_)⟩
  rcases ho.2 with ⟨rfl, _⟩ | ⟨g', cap, cur, rfl, hbg, _⟩
  · cases e
  · have : k = g' := by simpa [Value.ownBlock] using e
    omega

theorem belowBlock {w0 w w' : World} {base b : Nat} (hb : Below base w0 w) (hg : w.grownBy w' (some b)) (hs : base ≤ w.heap.size) (hbb : base ≤ b) : Below base w0 w' :=
  hb.trans ⟨hg.os, hg.tape, hg.output, hg.size, fun k hk => hg.block k (by omega) (fun e => by simp at e; omega)⟩

theorem NS.start {w : World} {H b bh bu bf bk : Nat} {p : GP} {vn : Value}
    (hb : Blk w b [.int .i64 p.n, vn, nilS, nilS, nilS, .map (some bh), .map (some bu), .map (some bf), .map (some bk), .int .i64 0, nilS] 54)
    (hh : MapIs (Value.int .i64) w bh (fun _ => none)) (hu : MapIs (Value.int .i64) w bu (fun _ => none)) (hf : MapIs (Value.int .i64) w bf (fun _ => none)) (hk : MapIs (Value.int .i64) w bk (fun _ => none))
    (hne : bh ≠ bu ∧ bh ≠ bf ∧ bh ≠ bk ∧ bu ≠ bf ∧ bu ≠ bk ∧ bf ≠ bk) (hn : OwnS H w vn p.names) (lo : H ≤ b ∧ H ≤ bh ∧ H ≤ bu ∧ H ≤ bf ∧ H ≤ bk) :
    ∃ κ, NS κ H p b bh bu bf bk vn nilS (fun _ => none) (fun _ => none) (fun _ => []) (fun _ => []) [] [] w := by
  obtain ⟨n1, n2, n3, n4, n5, n6⟩ := hne
  have m1 := hh.blk hb
  have m2 := hu.blk hb
  have m3 := hf.blk hb
  have m4 := hk.blk hb
  obtain ⟨κ, hκ⟩ : ∃ κ : Nat → Tg, κ = fun i => if i = b then .obj else if i = bh then .hm else if i = bu then .um else if i = bf then .fm else if i = bk then .km else .ro := ⟨_, rfl⟩
  have e1 : κ b = .obj := by rw [hκ]; simp
  have e2 : κ bh = .hm := by rw [hκ]; grind
  have e3 : κ bu = .um := by rw [hκ]; grind
  have e4 : κ bf = .fm := by rw [hκ]; grind
  have e5 : κ bk = .km := by rw [hκ]; grind
  refine ⟨κ, hb, e1, .new hh e2, .new hu e3, hf, e4, hk, e5, hn, fun g hg => ?_, .nil _ _ _, lo, fun e he => by cases he⟩
  rcases hn.1.1.2 with ⟨rfl, _⟩ | ⟨g', cap, cur, rfl, _, hgg, _⟩
  · cases hg
  · have : g' = g := by simpa [Value.ownBlock] using hg
    subst this
    have ne : ∀ b', (∃ es cl, w.heap[b']? = some (.map es cl)) → g' ≠ b' := by
      rintro b' ⟨es, cl, h⟩ rfl; rw [hgg] at h; cases h
    have k1 := ne bh (let ⟨es, cl, h, _⟩ := hh; ⟨es, cl, h⟩)
    have k2 := ne bu (let ⟨es, cl, h, _⟩ := hu; ⟨es, cl, h⟩)
    have k3 := ne bf (let ⟨es, cl, h, _⟩ := hf; ⟨es, cl, h⟩)
    have k4 := ne bk (let ⟨es, cl, h, _⟩ := hk; ⟨es, cl, h⟩)
    have k0 : g' ≠ b := by
      rintro rfl
      unfold Blk at hb
      rw [hgg] at hb
      have := Option.some.inj hb
      injection this with _ h2 _
      revert h2; decide
    rw [hκ]; grind

end Go.Proofs.Ytkjpnpkmnpofgaa
