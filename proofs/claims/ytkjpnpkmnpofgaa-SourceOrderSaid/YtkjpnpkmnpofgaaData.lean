/- Rules, levels and programs as Lean data, and what it says that a Go value holds one of them. -/
import Derived.Test.YtkjpnpkmnpofgaaBase
namespace Go.Proofs.Ytkjpnpkmnpofgaa
open Go.RowKit

/-- A rule. -/
structure GR where
  choice : Bool
  head : List Int
  sum : Bool
  bound : Int
  body : List Int
  w : List Int
  deriving Inhabited, DecidableEq

/-- A level of the objective. -/
structure GM where
  level : Int
  lits : List Int
  w : List Int
  deriving Inhabited, DecidableEq

/-- A program. -/
structure GP where
  n : Int
  names : List ByteArray
  shown : List Int
  rules : List GR
  min : List GM

def ixR (l : List GR) (i : Nat) : GR := l.getD i default
def ixM (l : List GM) (i : Nat) : GM := l.getD i default
def ixS (l : List ByteArray) (i : Nat) : ByteArray := l.getD i ⟨#[]⟩

def InI (x : Int) : Prop := -9223372036854775808 ≤ x ∧ x ≤ 9223372036854775807

/-- A slice of structs of sz cells each. -/
def Rows (w : World) (v : Value) (sz bytes n : Nat) (f : Nat → Nat → Value) : Prop :=
  ∃ a cap, v = .slice a n cap ∧ n ≤ cap ∧ cap ≤ maxLen ∧ n * bytes ≤ 140737488351232 ∧
    (0 < n → ∃ b off, a = some ⟨b, off, none⟩ ∧ b < w.heap.size ∧ ∀ i, i < n → ∀ j, j < sz → w.cell? ⟨b, off + i * sz + j, none⟩ = some (f i j))

theorem Rows.below {w w' : World} {v : Value} {sz bytes n : Nat} {f : Nat → Nat → Value} (h : Rows w v sz bytes n f) (hb : Below w.heap.size w w') : Rows w' v sz bytes n f := by
  obtain ⟨a, cap, e, h1, hm, h2, h3⟩ := h
  exact ⟨a, cap, e, h1, hm, h2, fun h0 => let ⟨b, off, e, hl, hc⟩ := h3 h0; ⟨b, off, e, Nat.lt_of_lt_of_le hl hb.size, fun i hi j hj => (bcell hb _ _ hl).trans (hc i hi j hj)⟩⟩

def ruleVal (r : GR) (vh vb vw : Value) : Value := .agg #[.bool r.choice, vh, .bool r.sum, .int .i64 r.bound, vb, vw]
def ruleCell (r : GR) (vh vb vw : Value) : Nat → Value
  | 0 => .bool r.choice
  | 1 => vh
  | 2 => .bool r.sum
  | 3 => .int .i64 r.bound
  | 4 => vb
  | _ => vw

/-- The three slices of a rule. -/
structure RuleSl (w : World) (r : GR) (vh vb vw : Value) : Prop where
  head : Ints w vh r.head
  body : Ints w vb r.body
  wts : Ints w vw r.w
  bound : InI r.bound

theorem RuleSl.below {w w' : World} {r : GR} {vh vb vw : Value} (h : RuleSl w r vh vb vw) (hb : Below w.heap.size w w') : RuleSl w' r vh vb vw :=
  ⟨h.head.below hb, h.body.below hb, h.wts.below hb, h.bound⟩

def RuleIs (w : World) (v : Value) (r : GR) : Prop := ∃ vh vb vw, v = .agg #[.bool r.choice, vh, .bool r.sum, .int .i64 r.bound, vb, vw] ∧ RuleSl w r vh vb vw

theorem RuleIs.below {w w' : World} {v : Value} {r : GR} (h : RuleIs w v r) (hb : Below w.heap.size w w') : RuleIs w' v r :=
  let ⟨vh, vb, vw, e, h1⟩ := h; ⟨vh, vb, vw, e, h1.below hb⟩

/-- A slice of rules reads as a list. -/
def RulesIs (w : World) (v : Value) (l : List GR) : Prop :=
  ∃ vh vb vw : Nat → Value, Rows w v 6 88 l.length (fun i => ruleCell (ixR l i) (vh i) (vb i) (vw i)) ∧ ∀ i, i < l.length → RuleSl w (ixR l i) (vh i) (vb i) (vw i)

theorem RulesIs.below {w w' : World} {v : Value} {l : List GR} (h : RulesIs w v l) (hb : Below w.heap.size w w') : RulesIs w' v l :=
  let ⟨vh, vb, vw, e, h1⟩ := h; ⟨vh, vb, vw, e.below hb, fun i hi => (h1 i hi).below hb⟩

def RuleCells (w : World) (b o : Nat) (r : GR) (vh vb vw : Value) : Prop :=
  w.cell? ⟨b, o, none⟩ = some (.bool r.choice) ∧ w.cell? ⟨b, o + 1, none⟩ = some vh ∧ w.cell? ⟨b, o + 2, none⟩ = some (.bool r.sum) ∧ w.cell? ⟨b, o + 3, none⟩ = some (.int .i64 r.bound) ∧ w.cell? ⟨b, o + 4, none⟩ = some vb ∧ w.cell? ⟨b, o + 5, none⟩ = some vw

theorem RuleCells.below {w w' : World} {b o : Nat} {r : GR} {vh vb vw : Value} (h : RuleCells w b o r vh vb vw) (hb : Below w.heap.size w w') (hl : b < w.heap.size) : RuleCells w' b o r vh vb vw :=
  ⟨(bcell hb _ _ hl).trans h.1, (bcell hb _ _ hl).trans h.2.1, (bcell hb _ _ hl).trans h.2.2.1, (bcell hb _ _ hl).trans h.2.2.2.1, (bcell hb _ _ hl).trans h.2.2.2.2.1, (bcell hb _ _ hl).trans h.2.2.2.2.2⟩

theorem RulesIs.form {w : World} {v : Value} {l : List GR} (h : RulesIs w v l) : ∃ a cap, v = .slice a l.length cap ∧ l.length ≤ cap ∧ l.length ≤ 1000000000000000 ∧ RulesIs w (.slice a l.length cap) l ∧
    (0 < l.length → ∃ b off, a = some ⟨b, off, none⟩ ∧ b < w.heap.size ∧ ∀ i, i < l.length → ∃ vh vb vw, RuleCells w b (off + i * 6) (ixR l i) vh vb vw ∧ RuleSl w (ixR l i) vh vb vw) := by
  have h0 := h
  obtain ⟨vh, vb, vw, ⟨a, cap, rfl, h1, hm, h2, h3⟩, h4⟩ := h
  refine ⟨a, cap, rfl, h1, by omega, h0, fun hp => ?_⟩
  obtain ⟨b, off, e, hl, hc⟩ := h3 hp
  exact ⟨b, off, e, hl, fun i hi => ⟨vh i, vb i, vw i, ⟨hc i hi 0 (by omega), hc i hi 1 (by omega), hc i hi 2 (by omega), hc i hi 3 (by omega), hc i hi 4 (by omega), hc i hi 5 (by omega)⟩, h4 i hi⟩⟩

/-- A slice of levels. -/
def minCell (m : GM) (vl vw : Value) : Nat → Value
  | 0 => .int .i64 m.level
  | 1 => vl
  | _ => vw

structure MinSl (w : World) (m : GM) (vl vw : Value) : Prop where
  lits : Ints w vl m.lits
  wts : Ints w vw m.w
  level : InI m.level

theorem MinSl.below {w w' : World} {m : GM} {vl vw : Value} (h : MinSl w m vl vw) (hb : Below w.heap.size w w') : MinSl w' m vl vw := ⟨h.lits.below hb, h.wts.below hb, h.level⟩

def MinsIs (w : World) (v : Value) (l : List GM) : Prop :=
  ∃ vl vw : Nat → Value, Rows w v 3 56 l.length (fun i => minCell (ixM l i) (vl i) (vw i)) ∧ ∀ i, i < l.length → MinSl w (ixM l i) (vl i) (vw i)

theorem MinsIs.below {w w' : World} {v : Value} {l : List GM} (h : MinsIs w v l) (hb : Below w.heap.size w w') : MinsIs w' v l :=
  let ⟨vl, vw, e, h1⟩ := h; ⟨vl, vw, e.below hb, fun i hi => (h1 i hi).below hb⟩

def MinCells (w : World) (b o : Nat) (m : GM) (vl vw : Value) : Prop :=
  w.cell? ⟨b, o, none⟩ = some (.int .i64 m.level) ∧ w.cell? ⟨b, o + 1, none⟩ = some vl ∧ w.cell? ⟨b, o + 2, none⟩ = some vw

theorem MinCells.below {w w' : World} {b o : Nat} {m : GM} {vl vw : Value} (h : MinCells w b o m vl vw) (hb : Below w.heap.size w w') (hl : b < w.heap.size) : MinCells w' b o m vl vw :=
  ⟨(bcell hb _ _ hl).trans h.1, (bcell hb _ _ hl).trans h.2.1, (bcell hb _ _ hl).trans h.2.2⟩

theorem MinsIs.form {w : World} {v : Value} {l : List GM} (h : MinsIs w v l) : ∃ a cap, v = .slice a l.length cap ∧ l.length ≤ cap ∧ l.length ≤ 1000000000000000 ∧ MinsIs w (.slice a l.length cap) l ∧
    (0 < l.length → ∃ b off, a = some ⟨b, off, none⟩ ∧ b < w.heap.size ∧ ∀ i, i < l.length → ∃ vl vw, MinCells w b (off + i * 3) (ixM l i) vl vw ∧ MinSl w (ixM l i) vl vw) := by
  have h0 := h
  obtain ⟨vl, vw, ⟨a, cap, rfl, h1, hm, h2, h3⟩, h4⟩ := h
  refine ⟨a, cap, rfl, h1, by omega, h0, fun hp => ?_⟩
  obtain ⟨b, off, e, hl, hc⟩ := h3 hp
  exact ⟨b, off, e, hl, fun i hi => ⟨vl i, vw i, ⟨hc i hi 0 (by omega), hc i hi 1 (by omega), hc i hi 2 (by omega)⟩, h4 i hi⟩⟩

/-- A slice of strings. -/
def Strs (w : World) (v : Value) (l : List ByteArray) : Prop := Sl w v 16 l.length (fun i => .string (ixS l i)) ∧ ∀ i, (ixS l i).size ≤ 140737488351232

theorem Strs.below {w w' : World} {v : Value} {l : List ByteArray} (h : Strs w v l) (hb : Below w.heap.size w w') : Strs w' v l := ⟨h.1.below hb, h.2⟩

theorem Strs.form {w : World} {v : Value} {l : List ByteArray} (h : Strs w v l) : ∃ a cap, v = .slice a l.length cap ∧ l.length ≤ cap ∧ l.length ≤ 1000000000000000 ∧ Strs w (.slice a l.length cap) l ∧ (∀ i, (ixS l i).size ≤ 140737488351232) ∧
    (0 < l.length → ∃ b off, a = some ⟨b, off, none⟩ ∧ b < w.heap.size ∧ ∀ i, i < l.length → w.cell? ⟨b, off + i, none⟩ = some (.string (ixS l i))) := by
  have h0 := h
  obtain ⟨⟨a, cap, rfl, h1, hm, h2, h3⟩, h4⟩ := h
  exact ⟨a, cap, rfl, h1, by omega, h0, h4, h3⟩

/-- The parts of a program. -/
structure ProgSl (w : World) (p : GP) (vn vs vr vm : Value) : Prop where
  n : InI p.n
  names : Strs w vn p.names
  shown : Ints w vs p.shown
  rules : RulesIs w vr p.rules
  min : MinsIs w vm p.min

theorem ProgSl.below {w w' : World} {p : GP} {vn vs vr vm : Value} (h : ProgSl w p vn vs vr vm) (hb : Below w.heap.size w w') : ProgSl w' p vn vs vr vm :=
  ⟨h.n, h.names.below hb, h.shown.below hb, h.rules.below hb, h.min.below hb⟩

def ProgIs (w : World) (v : Value) (p : GP) : Prop := ∃ vn vs vr vm, v = .agg #[.int .i64 p.n, vn, vs, vr, vm] ∧ ProgSl w p vn vs vr vm

theorem ProgIs.below {w w' : World} {v : Value} {p : GP} (h : ProgIs w v p) (hb : Below w.heap.size w w') : ProgIs w' v p :=
  let ⟨vn, vs, vr, vm, e, h1⟩ := h; ⟨vn, vs, vr, vm, e, h1.below hb⟩

end Go.Proofs.Ytkjpnpkmnpofgaa
