/- My texts Base, Data, Own, Map, Pool, Ext, merged. -/
import Derived.Test.YteblddnoegbalaaGreatProg
import Derived.WalkKit
import Derived.Lib.Hide
import Derived.Deep.QuietTactic
import Derived.BigQuiet
import Derived.WalkSpells
import Derived.Lib.SliceRun
import Derived.MapKept
import Derived.Maps.OwnSet
import Derived.Maps.OwnOps

namespace Go.Proofs.YteblddnoegbalaaGreat
open Go.RowKit
def ix (l : List Int) (i : Nat) : Int := l.getD i 0
theorem bcell {W w1 : World} (hb : Below W.heap.size W w1) : ∀ b o, b < W.heap.size → w1.cell? ⟨b, o, none⟩ = W.cell? ⟨b, o, none⟩ :=
  fun b o h => hb.cell (p := ⟨b, o, none⟩) h
theorem bon {w a b : World} (h : Below w.heap.size w a) (k : Below a.heap.size a b) : Below w.heap.size w b := h.trans (k.mono h.size)
theorem bal {w a : World} (h : Below w.heap.size w a) (o : Obj) : Below w.heap.size w (a.alloc o) := h.alloc h.size o
def Blk (w : World) (b : Nat) (c : List Value) (t : TypeId) : Prop := w.heap[b]? = some (.cells c.toArray t (0, 0))
theorem Blk.lt {w : World} {b : Nat} {c : List Value} {t : TypeId} (h : Blk w b c t) : b < w.heap.size := (Array.getElem?_eq_some_iff.1 h).1
theorem Blk.cell {w : World} {b : Nat} {c : List Value} {t : TypeId} (h : Blk w b c t) (o : Nat) : w.cell? ⟨b, o, none⟩ = c[o]? := by
  unfold Blk at h
  simp [World.cell?, h]
theorem Blk.free {w : World} {b : Nat} {c : List Value} {t : TypeId} (h : Blk w b c t) (o : Nat) : w.frozen? ⟨b, o, none⟩ = false := by
  unfold Blk at h
  simp [World.frozen?, h]
theorem Blk.new (w : World) (c : List Value) (t : TypeId) : Blk (w.alloc (.cells c.toArray t)) w.heap.size c t := heap_alloc_new w _
theorem Blk.new2 (w : World) (o : Obj) (c : List Value) (t : TypeId) : Blk ((w.alloc o).alloc (.cells c.toArray t)) (w.heap.size + 1) c t := by
  have := Blk.new (w.alloc o) c t
  simpa using this
theorem Blk.same {w w' : World} {b : Nat} {c : List Value} {t : TypeId} (h : Blk w b c t) (e : w'.heap[b]? = w.heap[b]?) : Blk w' b c t := e.trans h
theorem Blk.alloc {w : World} {b : Nat} {c : List Value} {t : TypeId} (h : Blk w b c t) (o : Obj) : Blk (w.alloc o) b c t := h.same (Below.heap_alloc _ _ _ h.lt)
theorem Blk.below {w w' : World} {b : Nat} {c : List Value} {t : TypeId} (h : Blk w b c t) (hb : Below w.heap.size w w') : Blk w' b c t := h.same (hb.block _ h.lt)
theorem Blk.set {w : World} {b : Nat} {c : List Value} {t : TypeId} (h : Blk w b c t) (o : Nat) (v : Value) : Blk (w.setCell ⟨b, o, none⟩ v) b (c.set o v) t := by
  unfold Blk at *
  show (w.heap.modify b _)[b]? = _
  rw [Array.getElem?_modify, if_pos rfl, h]
  simp
theorem Blk.setOther {w : World} {b : Nat} {c : List Value} {t : TypeId} (h : Blk w b c t) {b' : Nat} (o : Nat) (v : Value) (hne : b ≠ b') : Blk (w.setCell ⟨b', o, none⟩ v) b c t := h.same (Below.heap_setCell _ _ _ _ hne)
theorem Blk.drew {w : World} {b : Nat} {c : List Value} {t : TypeId} (h : Blk w b c t) : Blk w.drew b c t := h
def Sl (w : World) (v : Value) (bytes n : Nat) (f : Nat → Value) : Prop :=
  ∃ a cap, v = .slice a n cap ∧ n ≤ cap ∧ cap ≤ maxLen ∧ n * bytes ≤ 140737488351232 ∧
    (0 < n → ∃ b off, a = some ⟨b, off, none⟩ ∧ b < w.heap.size ∧ ∀ i, i < n → w.cell? ⟨b, off + i, none⟩ = some (f i))
theorem Sl.below {w w' : World} {v : Value} {bytes n : Nat} {f : Nat → Value} (h : Sl w v bytes n f) (hb : Below w.heap.size w w') : Sl w' v bytes n f := by
  obtain ⟨a, cap, e, h1, hm, h2, h3⟩ := h
  exact ⟨a, cap, e, h1, hm, h2, fun h0 => let ⟨b, off, e, hl, hc⟩ := h3 h0; ⟨b, off, e, Nat.lt_of_lt_of_le hl hb.size, fun i hi => (bcell hb _ _ hl).trans (hc i hi)⟩⟩
def Apart (v : Value) (b : Nat) : Prop := ∀ b' o n cap, v = .slice (some ⟨b', o, none⟩) n cap → 0 < n → b' ≠ b
theorem Sl.setCell {w : World} {v : Value} {bytes n : Nat} {f : Nat → Value} (h : Sl w v bytes n f) {b : Nat} (o : Nat) (u : Value) (hne : Apart v b) : Sl (w.setCell ⟨b, o, none⟩ u) v bytes n f := by
  obtain ⟨a, cap, e, h1, hm, h2, h3⟩ := h
  refine ⟨a, cap, e, h1, hm, h2, fun h0 => ?_⟩
  obtain ⟨b', off, e', hl, hc⟩ := h3 h0
  have hb : b' ≠ b := hne b' off n cap (by rw [e, e']) h0
  refine ⟨b', off, e', by simpa [World.setCell] using hl, fun i hi => ?_⟩
  rw [← hc i hi]
  exact World.cell?_of_block (w := w) (Below.heap_setCell _ _ _ _ hb)
def Fits (l : List Int) : Prop := ∀ i, -9223372036854775808 ≤ ix l i ∧ ix l i ≤ 9223372036854775807
def Ints (w : World) (v : Value) (l : List Int) : Prop := Sl w v 8 l.length (fun i => .int .i64 (ix l i)) ∧ Fits l
theorem Ints.below {w w' : World} {v : Value} {l : List Int} (h : Ints w v l) (hb : Below w.heap.size w w') : Ints w' v l := ⟨h.1.below hb, h.2⟩
theorem Ints.setCell {w : World} {v : Value} {l : List Int} (h : Ints w v l) {b : Nat} (o : Nat) (u : Value) (hne : Apart v b) : Ints (w.setCell ⟨b, o, none⟩ u) v l := ⟨h.1.setCell o u hne, h.2⟩
theorem Ints.form {w : World} {v : Value} {l : List Int} (h : Ints w v l) : ∃ a cap, v = .slice a l.length cap ∧ l.length ≤ cap ∧ l.length ≤ 1000000000000000 ∧ Ints w (.slice a l.length cap) l ∧
    (0 < l.length → ∃ b off, a = some ⟨b, off, none⟩ ∧ b < w.heap.size ∧ ∀ i, i < l.length → w.cell? ⟨b, off + i, none⟩ = some (.int .i64 (ix l i))) := by
  have h0 := h
  obtain ⟨⟨a, cap, rfl, h1, hm, h2, h3⟩, h4⟩ := h
  exact ⟨a, cap, rfl, h1, by omega, h0, h3⟩
def allR (n : Nat) (f : Nat → Bool) : Bool := (List.range n).all f
theorem allR_true {n : Nat} {f : Nat → Bool} (h : ∀ j, j < n → f j = true) : allR n f = true := by
  simp [allR]; exact h
theorem allR_false {n : Nat} {f : Nat → Bool} (k : Nat) (hk : k < n) (h : f k = false) : allR n f = false := by
  simp [allR]; exact ⟨k, hk, h⟩
theorem allR_get {n : Nat} {f : Nat → Bool} (h : allR n f = true) (k : Nat) (hk : k < n) : f k = true := by
  simp [allR] at h; exact h k hk
def anyR (n : Nat) (f : Nat → Bool) : Bool := (List.range n).any f
theorem anyR_false {n : Nat} {f : Nat → Bool} (h : ∀ j, j < n → f j = false) : anyR n f = false := by
  simp [anyR]; exact h
theorem anyR_true {n : Nat} {f : Nat → Bool} (k : Nat) (hk : k < n) (h : f k = true) : anyR n f = true := by
  simp [anyR]; exact ⟨k, hk, h⟩
theorem lt_succ_all {P : Nat → Prop} {k : Nat} (h : ∀ j, j < k → P j) (hk : P k) : ∀ j, j < k + 1 → P j := by
  intro j hj
  rcases Nat.lt_or_ge j k with h1 | h1
  · exact h j h1
  · obtain rfl : j = k := by omega
    exact hk
theorem ret_int {k : IntKind} {a b : Int} (h : a = b) : Ending.returned (.int k a) = .returned (.int k b) := by rw [h]
theorem ret_bool {a b : Bool} (h : a = b) : Ending.returned (.bool a) = .returned (.bool b) := by rw [h]
structure GR where
  choice : Bool
  head : List Int
  sum : Bool
  bound : Int
  body : List Int
  w : List Int
  deriving Inhabited, DecidableEq
structure GM where
  level : Int
  lits : List Int
  w : List Int
  deriving Inhabited, DecidableEq
structure GP where
  n : Int
  names : List ByteArray
  shown : List Int
  rules : List GR
  min : List GM
def ixR (l : List GR) (i : Nat) : GR := l.getD i default
def ixM (l : List GM) (i : Nat) : GM := l.getD i default
def ixS (l : List ByteArray) (i : Nat) : ByteArray := l.getD i ⟨#[]⟩
def InI (x : Int) : Prop := -9223372036854775808 ≤ x ∧ x ≤ 9223372036854775807
def Rows (w : World) (v : Value) (sz bytes n : Nat) (f : Nat → Nat → Value) : Prop :=
  ∃ a cap, v = .slice a n cap ∧ n ≤ cap ∧ cap ≤ maxLen ∧ n * bytes ≤ 140737488351232 ∧
    (0 < n → ∃ b off, a = some ⟨b, off, none⟩ ∧ b < w.heap.size ∧ ∀ i, i < n → ∀ j, j < sz → w.cell? ⟨b, off + i * sz + j, none⟩ = some (f i j))
theorem Rows.below {w w' : World} {v : Value} {sz bytes n : Nat} {f : Nat → Nat → Value} (h : Rows w v sz bytes n f) (hb : Below w.heap.size w w') : Rows w' v sz bytes n f := by
  obtain ⟨a, cap, e, h1, hm, h2, h3⟩ := h
  exact ⟨a, cap, e, h1, hm, h2, fun h0 => let ⟨b, off, e, hl, hc⟩ := h3 h0; ⟨b, off, e, Nat.lt_of_lt_of_le hl hb.size, fun i hi j hj => (bcell hb _ _ hl).trans (hc i hi j hj)⟩⟩
def ruleCell (r : GR) (vh vb vw : Value) : Nat → Value
  | 0 => .bool r.choice
  | 1 => vh
  | 2 => .bool r.sum
  | 3 => .int .i64 r.bound
  | 4 => vb
  | _ => vw
structure RuleSl (w : World) (r : GR) (vh vb vw : Value) : Prop where
  head : Ints w vh r.head
  body : Ints w vb r.body
  wts : Ints w vw r.w
  bound : InI r.bound
theorem RuleSl.below {w w' : World} {r : GR} {vh vb vw : Value} (h : RuleSl w r vh vb vw) (hb : Below w.heap.size w w') : RuleSl w' r vh vb vw :=
  ⟨h.head.below hb, h.body.below hb, h.wts.below hb, h.bound⟩
def RuleIs (w : World) (v : Value) (r : GR) : Prop := ∃ vh vb vw, v = .agg #[.bool r.choice, vh, .bool r.sum, .int .i64 r.bound, vb, vw] ∧ RuleSl w r vh vb vw
theorem RuleIs.below {w w' : World} {v : Value} {r : GR} (h : RuleIs w v r) (hb : Below w.heap.size w w') : RuleIs w' v r :=
  let ⟨vh, vb, vw, e, h1⟩ := h; ⟨vh, vb, vw, e, h1.below hb⟩
def RulesIs (w : World) (v : Value) (l : List GR) : Prop :=
  ∃ vh vb vw : Nat → Value, Rows w v 6 88 l.length (fun i => ruleCell (ixR l i) (vh i) (vb i) (vw i)) ∧ ∀ i, i < l.length → RuleSl w (ixR l i) (vh i) (vb i) (vw i)
theorem RulesIs.below {w w' : World} {v : Value} {l : List GR} (h : RulesIs w v l) (hb : Below w.heap.size w w') : RulesIs w' v l :=
  let ⟨vh, vb, vw, e, h1⟩ := h; ⟨vh, vb, vw, e.below hb, fun i hi => (h1 i hi).below hb⟩
def RuleCells (w : World) (b o : Nat) (r : GR) (vh vb vw : Value) : Prop :=
  w.cell? ⟨b, o, none⟩ = some (.bool r.choice) ∧ w.cell? ⟨b, o + 1, none⟩ = some vh ∧ w.cell? ⟨b, o + 2, none⟩ = some (.bool r.sum) ∧ w.cell? ⟨b, o + 3, none⟩ = some (.int .i64 r.bound) ∧ w.cell? ⟨b, o + 4, none⟩ = some vb ∧ w.cell? ⟨b, o + 5, none⟩ = some vw
theorem RuleCells.below {w w' : World} {b o : Nat} {r : GR} {vh vb vw : Value} (h : RuleCells w b o r vh vb vw) (hb : Below w.heap.size w w') (hl : b < w.heap.size) : RuleCells w' b o r vh vb vw :=
  ⟨(bcell hb _ _ hl).trans h.1, (bcell hb _ _ hl).trans h.2.1, (bcell hb _ _ hl).trans h.2.2.1, (bcell hb _ _ hl).trans h.2.2.2.1, (bcell hb _ _ hl).trans h.2.2.2.2.1, (bcell hb _ _ hl).trans h.2.2.2.2.2⟩
theorem RulesIs.form {w : World} {v : Value} {l : List GR} (h : RulesIs w v l) : ∃ a cap, v = .slice a l.length cap ∧ l.length ≤ cap ∧ l.length ≤ 1000000000000000 ∧ RulesIs w (.slice a l.length cap) l ∧
    (0 < l.length → ∃ b off, a = some ⟨b, off, none⟩ ∧ b < w.heap.size ∧ ∀ i, i < l.length → ∃ vh vb vw, RuleCells w b (off + i * 6) (ixR l i) vh vb vw ∧ RuleSl w (ixR l i) vh vb vw) := by
  have h0 := h
  obtain ⟨vh, vb, vw, ⟨a, cap, rfl, h1, hm, h2, h3⟩, h4⟩ := h
  refine ⟨a, cap, rfl, h1, by omega, h0, fun hp => ?_⟩
  obtain ⟨b, off, e, hl, hc⟩ := h3 hp
  exact ⟨b, off, e, hl, fun i hi => ⟨vh i, vb i, vw i, ⟨hc i hi 0 (by omega), hc i hi 1 (by omega), hc i hi 2 (by omega), hc i hi 3 (by omega), hc i hi 4 (by omega), hc i hi 5 (by omega)⟩, h4 i hi⟩⟩
def minCell (m : GM) (vl vw : Value) : Nat → Value
  | 0 => .int .i64 m.level
  | 1 => vl
  | _ => vw
structure MinSl (w : World) (m : GM) (vl vw : Value) : Prop where
  lits : Ints w vl m.lits
  wts : Ints w vw m.w
  level : InI m.level
theorem MinSl.below {w w' : World} {m : GM} {vl vw : Value} (h : MinSl w m vl vw) (hb : Below w.heap.size w w') : MinSl w' m vl vw := ⟨h.lits.below hb, h.wts.below hb, h.level⟩
def MinsIs (w : World) (v : Value) (l : List GM) : Prop :=
  ∃ vl vw : Nat → Value, Rows w v 3 56 l.length (fun i => minCell (ixM l i) (vl i) (vw i)) ∧ ∀ i, i < l.length → MinSl w (ixM l i) (vl i) (vw i)
theorem MinsIs.below {w w' : World} {v : Value} {l : List GM} (h : MinsIs w v l) (hb : Below w.heap.size w w') : MinsIs w' v l :=
  let ⟨vl, vw, e, h1⟩ := h; ⟨vl, vw, e.below hb, fun i hi => (h1 i hi).below hb⟩
def MinCells (w : World) (b o : Nat) (m : GM) (vl vw : Value) : Prop :=
  w.cell? ⟨b, o, none⟩ = some (.int .i64 m.level) ∧ w.cell? ⟨b, o + 1, none⟩ = some vl ∧ w.cell? ⟨b, o + 2, none⟩ = some vw
theorem MinCells.below {w w' : World} {b o : Nat} {m : GM} {vl vw : Value} (h : MinCells w b o m vl vw) (hb : Below w.heap.size w w') (hl : b < w.heap.size) : MinCells w' b o m vl vw :=
  ⟨(bcell hb _ _ hl).trans h.1, (bcell hb _ _ hl).trans h.2.1, (bcell hb _ _ hl).trans h.2.2⟩
theorem MinsIs.form {w : World} {v : Value} {l : List GM} (h : MinsIs w v l) : ∃ a cap, v = .slice a l.length cap ∧ l.length ≤ cap ∧ l.length ≤ 1000000000000000 ∧ MinsIs w (.slice a l.length cap) l ∧
    (0 < l.length → ∃ b off, a = some ⟨b, off, none⟩ ∧ b < w.heap.size ∧ ∀ i, i < l.length → ∃ vl vw, MinCells w b (off + i * 3) (ixM l i) vl vw ∧ MinSl w (ixM l i) vl vw) := by
  have h0 := h
  obtain ⟨vl, vw, ⟨a, cap, rfl, h1, hm, h2, h3⟩, h4⟩ := h
  refine ⟨a, cap, rfl, h1, by omega, h0, fun hp => ?_⟩
  obtain ⟨b, off, e, hl, hc⟩ := h3 hp
  exact ⟨b, off, e, hl, fun i hi => ⟨vl i, vw i, ⟨hc i hi 0 (by omega), hc i hi 1 (by omega), hc i hi 2 (by omega)⟩, h4 i hi⟩⟩
def Strs (w : World) (v : Value) (l : List ByteArray) : Prop := Sl w v 16 l.length (fun i => .string (ixS l i)) ∧ ∀ i, (ixS l i).size ≤ 140737488351232
theorem Strs.below {w w' : World} {v : Value} {l : List ByteArray} (h : Strs w v l) (hb : Below w.heap.size w w') : Strs w' v l := ⟨h.1.below hb, h.2⟩
theorem Strs.form {w : World} {v : Value} {l : List ByteArray} (h : Strs w v l) : ∃ a cap, v = .slice a l.length cap ∧ l.length ≤ cap ∧ l.length ≤ 1000000000000000 ∧ Strs w (.slice a l.length cap) l ∧ (∀ i, (ixS l i).size ≤ 140737488351232) ∧
    (0 < l.length → ∃ b off, a = some ⟨b, off, none⟩ ∧ b < w.heap.size ∧ ∀ i, i < l.length → w.cell? ⟨b, off + i, none⟩ = some (.string (ixS l i))) := by
  have h0 := h
  obtain ⟨⟨a, cap, rfl, h1, hm, h2, h3⟩, h4⟩ := h
  exact ⟨a, cap, rfl, h1, by omega, h0, h4, h3⟩
structure ProgSl (w : World) (p : GP) (vn vs vr vm : Value) : Prop where
  n : InI p.n
  names : Strs w vn p.names
  shown : Ints w vs p.shown
  rules : RulesIs w vr p.rules
  min : MinsIs w vm p.min
theorem ProgSl.below {w w' : World} {p : GP} {vn vs vr vm : Value} (h : ProgSl w p vn vs vr vm) (hb : Below w.heap.size w w') : ProgSl w' p vn vs vr vm :=
  ⟨h.n, h.names.below hb, h.shown.below hb, h.rules.below hb, h.min.below hb⟩
def ProgIs (w : World) (v : Value) (p : GP) : Prop := ∃ vn vs vr vm, v = .agg #[.int .i64 p.n, vn, vs, vr, vm] ∧ ProgSl w p vn vs vr vm
theorem ProgIs.below {w w' : World} {v : Value} {p : GP} (h : ProgIs w v p) (hb : Below w.heap.size w w') : ProgIs w' v p :=
  let ⟨vn, vs, vr, vm, e, h1⟩ := h; ⟨vn, vs, vr, vm, e, h1.below hb⟩
def Own1 (base : Nat) (E bytes : Nat) (w : World) (v : Value) (n : Nat) (f : Nat → Value) : Prop :=
  w.ownsRow base E 1 v n ((List.range n).map f) ∧ n * bytes ≤ 140737488351232
theorem Own1.sl {base E bytes : Nat} {w : World} {v : Value} {n : Nat} {f : Nat → Value} (h : Own1 base E bytes w v n f) : Sl w v bytes n f := by
  obtain ⟨⟨h1, h2⟩, h3⟩ := h
  rcases h2 with ⟨rfl, rfl⟩ | ⟨g, cap, cur, rfl, hb, hg, hn, hm, hs, hx⟩
  · exact ⟨none, 0, rfl, Nat.le_refl _, by unfold maxLen; omega, h3, fun h0 => absurd h0 (Nat.lt_irrefl 0)⟩
  · refine ⟨_, cap, rfl, hn, hm, h3, fun _ => ⟨g, 0, rfl, (Array.getElem?_eq_some_iff.1 hg).1, fun i hi => ?_⟩⟩
    have e : cur[i]? = some (f i) := by
      have h4 : (cur.toList.take (n * 1))[i]? = some (f i) := by rw [hx]; simp [hi]
      rw [List.getElem?_take_of_lt (by omega)] at h4
      simpa using h4
    simp [World.cell?, hg, e]
def OwnI (base : Nat) (w : World) (v : Value) (l : List Int) : Prop := Own1 base 3 8 w v l.length (fun i => .int .i64 (ix l i)) ∧ Fits l
theorem OwnI.ints {base : Nat} {w : World} {v : Value} {l : List Int} (h : OwnI base w v l) : Ints w v l := ⟨h.1.sl, h.2⟩
def OwnS (base : Nat) (w : World) (v : Value) (l : List ByteArray) : Prop := Own1 base 9 16 w v l.length (fun i => .string (ixS l i)) ∧ ∀ i, (ixS l i).size ≤ 140737488351232
theorem OwnS.strs {base : Nat} {w : World} {v : Value} {l : List ByteArray} (h : OwnS base w v l) : Strs w v l := ⟨h.1.sl, h.2⟩
def Bytes8 (w : World) (v : Value) (l : List Int) : Prop := Sl w v 1 l.length (fun i => .int .i8 (ix l i)) ∧ ∀ i, -128 ≤ ix l i ∧ ix l i ≤ 127
def Own8 (base : Nat) (w : World) (v : Value) (l : List Int) : Prop := Own1 base 52 1 w v l.length (fun i => .int .i8 (ix l i)) ∧ ∀ i, -128 ≤ ix l i ∧ ix l i ≤ 127
theorem Own8.bytes {base : Nat} {w : World} {v : Value} {l : List Int} (h : Own8 base w v l) : Bytes8 w v l := ⟨h.1.sl, h.2⟩
theorem Bytes8.below {w w' : World} {v : Value} {l : List Int} (h : Bytes8 w v l) (hb : Below w.heap.size w w') : Bytes8 w' v l := ⟨h.1.below hb, h.2⟩
theorem infoI : (Tryz.prog.info? 3).map (fun i => (i.zero, i.size, i.bytes)) = some (some (.int .i64 0), 1, 8) := by kernel_rfl
theorem info8 : (Tryz.prog.info? 52).map (fun i => (i.zero, i.size, i.bytes)) = some (some (.int .i8 0), 1, 1) := by kernel_rfl
set_option maxHeartbeats 1000000 in
set_option maxRecDepth 100000 in
theorem clone_int (v : Value) (n : Nat) (f : Nat → Value) (w : World) (h : Sl w v 8 n f) (hone : ∀ i, (f i).oneCell' = true) :
    Calls Tryz.prog 88 #[v] w fun e w' => ∃ v', e = .returned v' ∧ Own1 w.heap.size 3 8 w' v' n f ∧ Below w.heap.size w w' := by
  obtain ⟨a, cap, rfl, h1, hm, h2, h3⟩ := h
  have q : ∀ (w : World) (a : Option Addr) (n c n' c' : Nat), (binOp .eql 23 (.slice a n c) (.slice none n' c')).run Tryz.prog w = .ok (.bool a.isNone) w := fun w a n c n' c' => Lib.run_eql_slice_nil w _ _ a n c n' c' Tryz.underlying23
  cases a with
  | none =>
    have hn : n = 0 := by
      rcases Nat.eq_zero_or_pos n with h | h
      · exact h
      · obtain ⟨b, off, e, _⟩ := h3 h
        cases e
    subst hn
    clear h3
    go_enter Tryz.func88, Tryz.ntmps88
    go_wp2
    go_ret
    exact ⟨.slice none 0 0, rfl, ⟨World.ownsRow_nil _ _ _ _, h2⟩, Below.refl _ _⟩
  | some ad =>
    obtain ⟨i0, hi, hz0, hz1, hz2⟩ := info_parts infoI
    have hcell : Hid (∀ j, j < n → w.cell? (ad.add j) = some (f j)) := Lib.hid (fun j hj => by
      obtain ⟨b, off, e, _, hc⟩ := h3 (by omega)
      cases e
      rw [Addr.add_lit]; exact hc j hj)
    have HONE := Lib.hid hone
    clear h3 hone
    go_enter Tryz.func88, Tryz.ntmps88
    go_wp2_with (at_builtin; refine wpList_append_own _ rfl _ _ 23 rfl w.heap.size 3 i0 (.int .i64 0) 1 8 Tryz.underlying23 hi hz0 hz1 hz2 rfl (by decide) _ _ _ rfl (World.ownsRow_made w #[] 0 (Nat.le_refl _) (Nat.zero_le _) rfl) ad n cap ((List.range n).map f) rfl ?qc1 ?qc2 ?qc3 ?qc4 ?qc5 ?qc6 ?_)
    case qc1 => simp
    case qc2 =>
      intro j u hj
      have hjn : j < n := by
        have := (List.getElem?_eq_some_iff.1 hj).1
        simpa using this
      refine Lib.cell?_alloc_some _ ?_
      rw [hcell.out j hjn]
      simpa [hjn] using hj
    case qc3 => intro u hu; obtain ⟨x, _, rfl⟩ := List.mem_map.1 hu; exact HONE.out x
    case qc4 => unfold maxLen at *; omega
    case qc5 => omega
    case qc6 => simp
    intro v' w1 hown hgrow hnil
    go_wp2
    go_ret
    refine ⟨v', rfl, ⟨by simpa using hown, h2⟩, ?_⟩
    exact (bal (Below.refl _ w) _).grown hgrow (by simp) (by intro k hk; simp [Value.ownBlock] at hk; omega)
theorem Own1.below {base E bytes : Nat} {w w' : World} {v : Value} {n : Nat} {f : Nat → Value} (h : Own1 base E bytes w v n f) (hb : Below w.heap.size w w') : Own1 base E bytes w' v n f :=
  ⟨h.1.kept (row := none) ⟨hb.os, hb.tape, hb.output, hb.size, fun k hk _ => hb.block k hk⟩ (by cases v.ownBlock <;> simp), h.2⟩
theorem OwnS.below {base : Nat} {w w' : World} {v : Value} {l : List ByteArray} (h : OwnS base w v l) (hb : Below w.heap.size w w') : OwnS base w' v l := ⟨h.1.below hb, h.2⟩
theorem OwnI.below {base : Nat} {w w' : World} {v : Value} {l : List Int} (h : OwnI base w v l) (hb : Below w.heap.size w w') : OwnI base w' v l := ⟨h.1.below hb, h.2⟩
theorem Own1.mono {base base' E bytes : Nat} {w : World} {v : Value} {n : Nat} {f : Nat → Value} (h : Own1 base E bytes w v n f) (hb : base' ≤ base) : Own1 base' E bytes w v n f := by
  obtain ⟨⟨h1, h2⟩, h3⟩ := h
  refine ⟨⟨h1, ?_⟩, h3⟩
  rcases h2 with h2 | ⟨g, cap, cur, e, hg, r⟩
  · exact .inl h2
  · exact .inr ⟨g, cap, cur, e, Nat.le_trans hb hg, r⟩
theorem OwnS.mono {base base' : Nat} {w : World} {v : Value} {l : List ByteArray} (h : OwnS base w v l) (hb : base' ≤ base) : OwnS base' w v l := ⟨h.1.mono hb, h.2⟩
theorem OwnI.mono {base base' : Nat} {w : World} {v : Value} {l : List Int} (h : OwnI base w v l) (hb : base' ≤ base) : OwnI base' w v l := ⟨h.1.mono hb, h.2⟩
theorem cloneI_any (v : Value) (l : List Int) (w : World) (h : Ints w v l) :
    Calls Tryz.prog 88 #[v] w fun e w' => ∃ v', e = .returned v' ∧ OwnI w.heap.size w' v' l ∧ Below w.heap.size w w' :=
  (clone_int v _ _ w h.1 (fun _ => rfl)).mono fun _ _ ⟨v', e, ho, hb⟩ => ⟨v', e, ⟨ho, h.2⟩, hb⟩
theorem Own1.form {base E bytes : Nat} {w : World} {v : Value} {n : Nat} {f : Nat → Value} (h : Own1 base E bytes w v n f) : ∃ a c, v = .slice a n c := by
  obtain ⟨a, c, e, _⟩ := h.sl
  exact ⟨a, c, e⟩
theorem Own1.apart {base E bytes : Nat} {w : World} {v : Value} {n : Nat} {f : Nat → Value} (h : Own1 base E bytes w v n f) {b : Nat} (hb : b < base) : Apart v b := by
  rintro b' o n' cap rfl h0 rfl
  rcases h.1.2 with ⟨e, _⟩ | ⟨g, cap', cur, e, hg, _⟩
  · cases e
  · cases e; omega
end Go.Proofs.YteblddnoegbalaaGreat
namespace Go.Proofs.YteblddnoegbalaaGreat
open Go.RowKit Go.MapKept
structure KV {κ : Type} (kv : κ → Value) (d : TypeDesc) : Prop where
  inj : ∀ a b, kv a = kv b → a = b
  key : ∀ a, IsKey d (kv a)
theorem kvInt : KV (Value.int .i64) (.int .i64) := ⟨fun a b h => by injection h, fun _ => rfl⟩
theorem kvStr : KV Value.string .string := ⟨fun a b h => by injection h, fun _ => trivial⟩
def MapIs {κ : Type} (kv : κ → Value) (w : World) (b : Nat) (g : κ → Option Value) : Prop :=
  ∃ es clock, w.heap[b]? = some (.map es clock) ∧ Stamped es clock ∧ (∀ x ∈ es.toList, ∃ k, x.key = kv k) ∧ ∀ k v, g k = some v ↔ ∃ x ∈ es.toList, x.key = kv k ∧ x.val = v
section
variable {κ : Type} {kv : κ → Value} {d : TypeDesc} {P : Program} {w : World} {b : Nat} {g : κ → Option Value} {t kt et : TypeId}
theorem MapIs.same {w' : World} (h : MapIs kv w b g) (hb : w'.heap[b]? = w.heap[b]?) : MapIs kv w' b g := by
  obtain ⟨es, clock, h1, h2⟩ := h
  exact ⟨es, clock, hb.trans h1, h2⟩
theorem MapIs.lt (h : MapIs kv w b g) : b < w.heap.size := by
  obtain ⟨es, clock, h1, h2⟩ := h
  exact (Array.getElem?_eq_some_iff.1 h1).1
theorem MapIs.made (w : World) : MapIs kv (w.alloc (.map #[] 0)) w.heap.size (fun _ => none) :=
  ⟨#[], 0, (heap_alloc w _).1, stamped_empty 0, by simp, by simp⟩
theorem MapIs.made2 (w : World) (b : Nat) (h : b = w.heap.size) : MapIs kv (w.alloc (.map #[] 0)) b (fun _ => none) := by subst h; exact MapIs.made w
theorem MapIs.alloc (h : MapIs kv w b g) (o : Obj) : MapIs kv (w.alloc o) b g := h.same (Below.heap_alloc _ _ _ h.lt)
theorem MapIs.drew (h : MapIs kv w b g) : MapIs kv w.drew b g := h
theorem MapIs.below {w' : World} (h : MapIs kv w b g) (hb : Below w.heap.size w w') : MapIs kv w' b g := h.same (hb.block _ h.lt)
theorem MapIs.blk {c : List Value} {t : TypeId} {b' : Nat} (h : MapIs kv w b g) (h' : Blk w b' c t) : b' ≠ b := by
  rintro rfl
  obtain ⟨es, clock, h1, _⟩ := h
  unfold Blk at h'
  rw [h1] at h'
  cases h'
theorem MapIs.setCell (h : MapIs kv w b g) (b' o : Nat) (v : Value) : MapIs kv (w.setCell ⟨b', o, none⟩ v) b g := by
  obtain ⟨es, clock, h1, h2⟩ := h
  refine ⟨es, clock, ?_, h2⟩
  show (w.heap.modify b' _)[b]? = _
  rw [Array.getElem?_modify]
  split
  · rw [h1]; rfl
  · exact h1
theorem MapIs.lookup (h : MapIs kv w b g) (V : KV kv d) (ht : P.underlying t = some (.map kt et)) (hd : P.underlying kt = some d) {z : Value} (hz : (zeroValue et).run P w = .ok z w) (k : κ) :
    (Instr.lookup t (.map (some b)) (kv k) false).run P w = .ok ((g k).getD z) w := by
  obtain ⟨es, clock, hb, hs, hks, hg⟩ := h
  have hks' : ∀ x ∈ es.toList, IsKey d x.key := fun x hx => let ⟨k, e⟩ := hks x hx; e ▸ V.key k
  rcases findNow_spec (V.key k) es.toList 0 hks' with ⟨h1, h2⟩ | ⟨j, e, h1, h2, h3⟩
  · have hn : g k = none := by
      cases hgk : g k with
      | none => rfl
      | some v => obtain ⟨x, hx, hxk, _⟩ := (hg k v).1 hgk; exact absurd hxk (h2 x hx)
    simp [Instr.lookup, run_underlying ht, Go.MapKept.run_getObj_map hb, run_checkKey hd (V.key k), run_findKey hd h1, hz, Result.andThen, hn]
  · have hm : e ∈ es.toList := List.mem_of_getElem? h2
    have hn : g k = some e.val := (hg k _).2 ⟨e, hm, h3, rfl⟩
    simp [Instr.lookup, run_underlying ht, Go.MapKept.run_getObj_map hb, run_checkKey hd (V.key k), run_findKey hd h1, Result.andThen, hn]
theorem MapIs.lookup_ok (h : MapIs kv w b g) (V : KV kv d) (ht : P.underlying t = some (.map kt et)) (hd : P.underlying kt = some d) {z : Value} (hz : (zeroValue et).run P w = .ok z w) (k : κ) :
    (Instr.lookup t (.map (some b)) (kv k) true).run P w = .ok (.tuple #[(g k).getD z, .bool (g k).isSome]) w := by
  obtain ⟨es, clock, hb, hs, hks, hg⟩ := h
  have hks' : ∀ x ∈ es.toList, IsKey d x.key := fun x hx => let ⟨k, e⟩ := hks x hx; e ▸ V.key k
  rcases findNow_spec (V.key k) es.toList 0 hks' with ⟨h1, h2⟩ | ⟨j, e, h1, h2, h3⟩
  · have hn : g k = none := by
      cases hgk : g k with
      | none => rfl
      | some v => obtain ⟨x, hx, hxk, _⟩ := (hg k v).1 hgk; exact absurd hxk (h2 x hx)
    simp [Instr.lookup, run_underlying ht, Go.MapKept.run_getObj_map hb, run_checkKey hd (V.key k), run_findKey hd h1, hz, Result.andThen, hn]
  · have hm : e ∈ es.toList := List.mem_of_getElem? h2
    have hn : g k = some e.val := (hg k _).2 ⟨e, hm, h3, rfl⟩
    simp [Instr.lookup, run_underlying ht, Go.MapKept.run_getObj_map hb, run_checkKey hd (V.key k), run_findKey hd h1, Result.andThen, hn]
def upd [DecidableEq κ] (g : κ → Option Value) (k : κ) (v : Option Value) : κ → Option Value := fun x => if x = k then v else g x
theorem upd_same [DecidableEq κ] (g : κ → Option Value) (k : κ) (v : Option Value) : upd g k v k = v := by simp [upd]
theorem upd_other [DecidableEq κ] (g : κ → Option Value) {k x : κ} (v : Option Value) (h : x ≠ k) : upd g k v x = g x := by simp [upd, h]
theorem grownBy_set {o : Obj} (b : Nat) (o' : Obj) (hb : w.heap[b]? = some o) : w.grownBy { w with heap := w.heap.setIfInBounds b o' } (some b) :=
  ⟨rfl, rfl, rfl, by simp, fun i _ hi => (heap_set hb).2 i (fun e => hi (by rw [e]))⟩
theorem Array.getElem_mem_toList {α : Type} {a : Array α} {i : Nat} (h : i < a.size) : a[i] ∈ a.toList := by simp
theorem MapIs.update [DecidableEq κ] (h : MapIs kv w b g) (V : KV kv d) (ht : P.underlying t = some (.map kt et)) (hd : P.underlying kt = some d) (k : κ) (v : Value) :
    ∃ w', (Instr.mapUpdate t (.map (some b)) (kv k) v).run P w = .ok () w' ∧ MapIs kv w' b (upd g k (some v)) ∧ w.grownBy w' (some b) ∧ w'.heap.size = w.heap.size := by
  obtain ⟨es, clock, hb, hs, hks, hg⟩ := h
  have hks' : ∀ x ∈ es.toList, IsKey d x.key := fun x hx => let ⟨k, e⟩ := hks x hx; e ▸ V.key k
  rcases findNow_spec (V.key k) es.toList 0 hks' with ⟨h1, h2⟩ | ⟨j, e, h1, h2, h3⟩
  · refine ⟨{ w with heap := w.heap.setIfInBounds b (.map (es.push { key := kv k, val := v, born := clock }) (clock + 1)) }, ?_, ⟨_, _, (heap_set hb).1, stamped_push hs h2, ?_, ?_⟩, grownBy_set b _ hb, by simp⟩
    · simp [Instr.mapUpdate, run_underlying ht, Go.MapKept.run_getObj_map hb, run_checkKey hd (V.key k), run_findKey hd h1, Go.MapKept.run_setObj_map _ hb, Result.andThen]
    · intro x hx
      simp only [Array.toList_push, List.mem_append, List.mem_singleton] at hx
      rcases hx with hx | rfl
      · exact hks x hx
      · exact ⟨k, rfl⟩
    · intro k' v'
      simp only [Array.toList_push, List.mem_append, List.mem_singleton, upd]
      by_cases hk : k' = k
      · subst hk
        rw [if_pos rfl]
        constructor
        · intro e; cases e; exact ⟨_, .inr rfl, rfl, rfl⟩
        · rintro ⟨x, hx | rfl, h4, h5⟩
          · exact absurd h4 (h2 x hx)
          · rw [← h5]
      · rw [if_neg hk, hg]
        constructor
        · rintro ⟨x, hx, h4⟩; exact ⟨x, .inl hx, h4⟩
        · rintro ⟨x, hx | rfl, h4, h5⟩
          · exact ⟨x, hx, h4, h5⟩
          · exact absurd (V.inj _ _ h4).symm hk
  · have hj : es[j]? = some e := by simpa using h2
    have hm : e ∈ es.toList := List.mem_of_getElem? h2
    have hkey : ∀ e', es[j]? = some e' → ({ e' with key := kv k, val := v } : MapEntry).key = e'.key := fun e' he' => by rw [hj] at he'; cases he'; exact h3.symm
    have hjl : j < es.size := (Array.getElem?_eq_some_iff.1 hj).1
    have hej : es[j] = e := by rw [Array.getElem?_eq_getElem hjl] at hj; exact Option.some.inj hj
    refine ⟨{ w with heap := w.heap.setIfInBounds b (.map (es.modify j fun e => { e with key := kv k, val := v }) clock) }, ?_, ⟨_, _, (heap_set hb).1, stamped_modify hs _ _ (fun _ _ => rfl) (fun e' _ he' => hkey e' he'), ?_, ?_⟩, grownBy_set b _ hb, by simp⟩
    · simp [Instr.mapUpdate, run_underlying ht, Go.MapKept.run_getObj_map hb, run_checkKey hd (V.key k), run_findKey hd h1, hj, h3, run_keyThatStays (V.key k), Go.MapKept.run_setObj_map _ hb, Result.andThen]
    · intro x hx
      obtain ⟨i, hi, rfl⟩ := List.mem_iff_getElem.1 hx
      simp only [Array.length_toList, Array.size_modify] at hi
      simp only [Array.getElem_toList, Array.getElem_modify]
      split
      · exact ⟨k, rfl⟩
      · exact hks _ (by simp)
    · intro k' v'
      simp only [upd]
      by_cases hk : k' = k
      · subst hk
        rw [if_pos rfl]
        constructor
        · intro e'; cases e'
          refine ⟨(es.modify j fun e => { e with key := kv k', val := v })[j]'(by simpa using hjl), Array.getElem_mem_toList _, ?_, ?_⟩ <;> rw [Array.getElem_modify, if_pos rfl]
        · rintro ⟨x, hx, h4, h5⟩
          obtain ⟨i, hi, rfl⟩ := List.mem_iff_getElem.1 hx
          simp only [Array.length_toList, Array.size_modify] at hi
          simp only [Array.getElem_toList, Array.getElem_modify] at h4 h5
          by_cases hij : j = i
          · rw [if_pos hij] at h5; rw [← h5]
          · rw [if_neg hij] at h4 h5
            have hpw := (stamped_iff es clock).1 hs |>.2.2
            exfalso
            have hne : ∀ (p q : Nat) (hp : p < es.size) (hq : q < es.size), p < q → es[p].key ≠ es[q].key := fun p q hp hq hpq => by
              have := List.pairwise_iff_getElem.1 hpw p q (by simpa using hp) (by simpa using hq) hpq
              simpa using this
            rcases Nat.lt_or_gt_of_ne hij with hlt | hlt
            · exact hne j i hjl hi hlt (by rw [hej, h3, h4])
            · exact hne i j hi hjl hlt (by rw [hej, h3, h4])
      · rw [if_neg hk, hg]
        constructor
        · rintro ⟨x, hx, h4, h5⟩
          obtain ⟨i, hi, rfl⟩ := List.mem_iff_getElem.1 hx
          simp only [Array.length_toList] at hi
          simp only [Array.getElem_toList] at h4 h5
          have hij : j ≠ i := fun e' => by subst e'; rw [hej, h3] at h4; exact hk (V.inj _ _ h4).symm
          refine ⟨(es.modify j fun e => { e with key := kv k, val := v })[i]'(by simpa using hi), Array.getElem_mem_toList _, ?_, ?_⟩ <;> simp only [Array.getElem_modify, if_neg hij] <;> assumption
        · rintro ⟨x, hx, h4, h5⟩
          obtain ⟨i, hi, rfl⟩ := List.mem_iff_getElem.1 hx
          simp only [Array.length_toList, Array.size_modify] at hi
          simp only [Array.getElem_toList, Array.getElem_modify] at h4 h5
          by_cases hij : j = i
          · rw [if_pos hij] at h4; exact absurd (V.inj _ _ h4).symm hk
          · rw [if_neg hij] at h4 h5
            exact ⟨es[i], by simp, h4, h5⟩
theorem MapIs.delete [DecidableEq κ] (h : MapIs kv w b g) (V : KV kv d) (ht : P.underlying t = some (.map kt et)) (hd : P.underlying kt = some d) (k : κ) (ty : TypeId) :
    ∃ w', (Builtin.delete_ #[t, kt] ty #[.map (some b), kv k]).run P w = .ok (.tuple #[]) w' ∧ MapIs kv w' b (upd g k none) ∧ w.grownBy w' (some b) ∧ w'.heap.size = w.heap.size := by
  obtain ⟨es, clock, hb, hs, hks, hg⟩ := h
  have hks' : ∀ x ∈ es.toList, IsKey d x.key := fun x hx => let ⟨k, e⟩ := hks x hx; e ▸ V.key k
  rcases findNow_spec (V.key k) es.toList 0 hks' with ⟨h1, h2⟩ | ⟨j, e, h1, h2, h3⟩
  · refine ⟨{ w with heap := w.heap.setIfInBounds b (.map es clock) }, ?_, ⟨_, _, (heap_set hb).1, hs, hks, ?_⟩, grownBy_set b _ hb, by simp⟩
    · simp [Builtin.delete_, run_underlying ht, Go.MapKept.run_getObj_map hb, run_checkKey hd (V.key k), run_findKey hd h1, Go.MapKept.run_setObj_map _ hb, Result.andThen]
    · intro k' v'
      simp only [upd]
      by_cases hk : k' = k
      · subst hk
        rw [if_pos rfl]
        constructor
        · intro e; cases e
        · rintro ⟨x, hx, h4, _⟩; exact absurd h4 (h2 x hx)
      · rw [if_neg hk, hg]
  · have hjl : j < es.size := by
      have := (List.getElem?_eq_some_iff.1 h2).1
      simpa using this
    have hm : e ∈ es.toList := List.mem_of_getElem? h2
    have he : es.eraseIdxIfInBounds j = es.eraseIdx j hjl := by simp [Array.eraseIdxIfInBounds, hjl]
    refine ⟨{ w with heap := w.heap.setIfInBounds b (.map (es.eraseIdxIfInBounds j) clock) }, ?_, ⟨_, _, (heap_set hb).1, stamped_erase hs _, ?_, ?_⟩, grownBy_set b _ hb, by simp⟩
    · simp [Builtin.delete_, run_underlying ht, Go.MapKept.run_getObj_map hb, run_checkKey hd (V.key k), run_findKey hd h1, Go.MapKept.run_setObj_map _ hb, Result.andThen]
    · intro x hx
      rw [he, Array.toList_eraseIdx] at hx
      exact hks x ((List.eraseIdx_sublist _ _).subset hx)
    · intro k' v'
      rw [he, Array.toList_eraseIdx]
      have hmem : ∀ x, x ∈ es.toList.eraseIdx j ↔ x ∈ es.toList ∧ x.key ≠ kv k := by
        intro x
        have hpw := (stamped_iff es clock).1 hs |>.2.2
        constructor
        · intro hx
          refine ⟨(List.eraseIdx_sublist _ _).subset hx, fun hkx => ?_⟩
          obtain ⟨i, hij, hi⟩ := List.mem_eraseIdx_iff_getElem?.1 hx
          have hne : ∀ (p q : Nat) (a c : MapEntry), es.toList[p]? = some a → es.toList[q]? = some c → p < q → a.key ≠ c.key := fun p q a c hp hq hpq => by
            obtain ⟨hp1, hp2⟩ := List.getElem?_eq_some_iff.1 hp
            obtain ⟨hq1, hq2⟩ := List.getElem?_eq_some_iff.1 hq
            have := List.pairwise_iff_getElem.1 hpw p q hp1 hq1 hpq
            rw [hp2, hq2] at this
            exact this
          rcases Nat.lt_or_gt_of_ne hij with hlt | hlt
          · exact hne i j _ _ hi h2 hlt (by rw [hkx, h3])
          · exact hne j i _ _ h2 hi hlt (by rw [hkx, h3])
        · rintro ⟨hx, hkx⟩
          obtain ⟨i, hi, hxi⟩ := List.mem_iff_getElem.1 hx
          refine List.mem_eraseIdx_iff_getElem?.2 ⟨i, fun e' => ?_, by rw [List.getElem?_eq_getElem hi, hxi]⟩
          subst e'
          rw [List.getElem?_eq_getElem hi, hxi] at h2
          cases h2
          exact hkx h3
      simp only [upd]
      by_cases hk : k' = k
      · subst hk
        rw [if_pos rfl]
        constructor
        · intro e; cases e
        · rintro ⟨x, hx, h4, _⟩; exact absurd h4 ((hmem x).1 hx).2
      · rw [if_neg hk, hg]
        constructor
        · rintro ⟨x, hx, h4, h5⟩
          exact ⟨x, (hmem x).2 ⟨hx, fun e' => hk (V.inj _ _ (h4.symm.trans e'))⟩, h4, h5⟩
        · rintro ⟨x, hx, h4, h5⟩
          exact ⟨x, ((hmem x).1 hx).1, h4, h5⟩
end
section
variable {κ : Type} {kv : κ → Value} {d : TypeDesc} {P : Program} {w : World} {ops : Array Oper} {rest : List Oper} {o : Oper} {a : Act} {Q : Exit → Act → World → Prop}
theorem wpList_mput [DecidableEq κ] (g : κ → Option Value) (b : Nat) (k : κ) (v : Value) (V : KV kv d) (t kt et : TypeId) (ht : P.underlying t = some (.map kt et)) (hd : P.underlying kt = some d)
    (hg : o.guard = none) (m x y : Operand) (hop : o.op = Op.mapUpdate t m x y) (hm : a.eval m = .map (some b)) (hx : a.eval x = kv k) (hy : a.eval y = v) (h : MapIs kv w b g)
    (hK : ∀ w', MapIs kv w' b (upd g k (some v)) → w.grownBy w' (some b) → w'.heap.size = w.heap.size → wpList P ops Q rest (a.put o.dst undef) w') : wpList P ops Q (o :: rest) a w := by
  refine wpList_plain hg fun K' hK' => ?_
  obtain ⟨w', hrun, r1, r2, r3⟩ := h.update V ht hd k v
  unfold Oper.wp
  simp [execOp, hop, hm, hx, hy, hrun, Result.andThen]
  exact hK' _ _ (hK w' r1 r2 r3)
end
end Go.Proofs.YteblddnoegbalaaGreat
namespace Go.Proofs.YteblddnoegbalaaGreat
open Go.RowKit
inductive Tg
  | ro | obj | hm | um | fm | km | rules | head (x : Int) | use (x : Int)
  deriving DecidableEq
def Col (κ : Nat → Tg) (t : Tg) (v : Value) : Prop := ∀ g, v.ownBlock = some g → κ g = t
structure Turn (κ : Nat → Tg) (t : Tg) (w w' : World) : Prop where
  size : w.heap.size ≤ w'.heap.size
  block : ∀ i, i < w.heap.size → κ i ≠ t → w'.heap[i]? = w.heap[i]?
def Agr (κ κ' : Nat → Tg) (w : World) : Prop := ∀ i, i < w.heap.size → κ' i = κ i
section
variable {κ κ' : Nat → Tg} {t s : Tg} {w w' : World} {H : Nat}
theorem Turn.of_grown {row : Option Nat} (h : w.grownBy w' row) (hr : ∀ g, row = some g → κ g = t) : Turn κ t w w' :=
  ⟨h.size, fun i hi hk => h.block i hi (fun e => hk (hr i e.symm))⟩
theorem Turn.setCell (b o : Nat) (v : Value) (hb : κ b = t) : Turn κ t w (w.setCell ⟨b, o, none⟩ v) :=
  ⟨by simp [World.setCell], fun i _ hk => Below.heap_setCell _ _ _ _ (by rintro rfl; exact hk hb)⟩
theorem Col.mono {base E bytes n : Nat} {f : Nat → Value} {v : Value} (h : Col κ t v) (ho : Own1 base E bytes w v n f) (ha : Agr κ κ' w) : Col κ' t v := by
  intro g hg
  rcases ho.1.2 with ⟨rfl, _⟩ | ⟨g', cap, cur, rfl, _, hgg, _⟩
  · cases hg
  · have : g' = g := by simpa [Value.ownBlock] using hg
    subst this
    rw [ha _ (Array.getElem?_eq_some_iff.1 hgg).1]
    exact h _ hg
theorem rowTurn {base E size n : Nat} {xs : List Value} {v : Value} (h : w.ownsRow base E size v n xs) (hc : Col κ s v) (ht : Turn κ t w w') (hne : s ≠ t) : w'.ownsRow base E size v n xs := by
  refine ⟨h.1, ?_⟩
  rcases h.2 with hn | ⟨g, cap, cur, rfl, hb, hgg, rest⟩
  · exact .inl hn
  · refine .inr ⟨g, cap, cur, rfl, hb, ?_, rest⟩
    rw [ht.block g (Array.getElem?_eq_some_iff.1 hgg).1 (by rw [hc g rfl]; exact hne)]
    exact hgg
theorem rowCol {base E size n : Nat} {xs : List Value} {v : Value} (h : w.ownsRow base E size v n xs) (hc : Col κ t v) (ha : Agr κ κ' w) : Col κ' t v := by
  intro g hg
  rcases h.2 with ⟨rfl, _⟩ | ⟨g', cap, cur, rfl, _, hgg, _⟩
  · cases hg
  · have : g' = g := by simpa [Value.ownBlock] using hg
    subst this
    rw [ha _ (Array.getElem?_eq_some_iff.1 hgg).1]
    exact hc _ hg
theorem Own1.turn {base E bytes n : Nat} {f : Nat → Value} {v : Value} (h : Own1 base E bytes w v n f) (hc : Col κ s v) (ht : Turn κ t w w') (hne : s ≠ t) : Own1 base E bytes w' v n f := ⟨rowTurn h.1 hc ht hne, h.2⟩
theorem OwnI.turn {base : Nat} {l : List Int} {v : Value} (h : OwnI base w v l) (hc : Col κ s v) (ht : Turn κ t w w') (hne : s ≠ t) : OwnI base w' v l := ⟨h.1.turn hc ht hne, h.2⟩
theorem OwnS.turn {base : Nat} {l : List ByteArray} {v : Value} (h : OwnS base w v l) (hc : Col κ s v) (ht : Turn κ t w w') (hne : s ≠ t) : OwnS base w' v l := ⟨h.1.turn hc ht hne, h.2⟩
theorem Blk.turn {b : Nat} {c : List Value} {T : TypeId} (h : Blk w b c T) (hb : κ b = s) (ht : Turn κ t w w') (hne : s ≠ t) : Blk w' b c T := h.same (ht.block b h.lt (by rw [hb]; exact hne))
theorem MapIs.turn {b : Nat} {g : Int → Option Value} (h : MapIs (Value.int .i64) w b g) (hb : κ b = s) (ht : Turn κ t w w') (hne : s ≠ t) : MapIs (Value.int .i64) w' b g := h.same (ht.block b h.lt (by rw [hb]; exact hne))
end
def nilS : Value := .slice none 0 0
structure RowsM (κ : Nat → Tg) (tg : Int → Tg) (tm : Tg) (H : Nat) (bm : Nat) (g : Int → Option Value) (R : Int → List Int) (w : World) : Prop where
  map : MapIs (Value.int .i64) w bm g
  mapk : κ bm = tm
  row : ∀ x, OwnI H w ((g x).getD nilS) (R x)
  rowk : ∀ x, Col κ (tg x) ((g x).getD nilS)
section
variable {κ κ' : Nat → Tg} {t tm : Tg} {tg : Int → Tg} {w w' : World} {H bm : Nat} {g : Int → Option Value} {R : Int → List Int}
theorem ownNil (H : Nat) (w : World) : OwnI H w nilS [] := ⟨⟨World.ownsRow_nil _ _ _ _, by simp⟩, fun i => by simp [ix]⟩
theorem RowsM.new (h : MapIs (Value.int .i64) w bm (fun _ => none)) (hk : κ bm = tm) : RowsM κ tg tm H bm (fun _ => none) (fun _ => []) w :=
  ⟨h, hk, fun x => ownNil H w, fun x g hg => by cases hg⟩
theorem RowsM.below (h : RowsM κ tg tm H bm g R w) (hb : Below w.heap.size w w') : RowsM κ tg tm H bm g R w' :=
  ⟨h.map.below hb, h.mapk, fun x => (h.row x).below hb, h.rowk⟩
theorem RowsM.recol (h : RowsM κ tg tm H bm g R w) (ha : Agr κ κ' w) : RowsM κ' tg tm H bm g R w :=
  ⟨h.map, (ha _ h.map.lt).trans h.mapk, h.row, fun x => (h.rowk x).mono (h.row x).1 ha⟩
theorem RowsM.turn (h : RowsM κ tg tm H bm g R w) (ht : Turn κ t w w') (h1 : tm ≠ t) (h2 : ∀ x, tg x ≠ t) : RowsM κ tg tm H bm g R w' :=
  ⟨h.map.turn h.mapk ht h1, h.mapk, fun x => (h.row x).turn (h.rowk x) ht (h2 x), h.rowk⟩
def pushR (R : Int → List Int) (x k : Int) : Int → List Int := fun y => if y = x then R y ++ [k] else R y
theorem ix_append (l : List Int) (k : Int) : (List.range (l ++ [k]).length).map (fun i => Value.int .i64 (ix (l ++ [k]) i)) = (List.range l.length).map (fun i => Value.int .i64 (ix l i)) ++ [.int .i64 k] := by
  rw [List.length_append, List.length_singleton, List.range_succ, List.map_append]
  congr 1
  · refine List.map_congr_left fun i hi => ?_
    have : i < l.length := by simpa using hi
    simp [ix, List.getElem?_append_left this]
  · simp [ix]
theorem Fits.push {l : List Int} {k : Int} (h : Fits l) (hk : InI k) : Fits (l ++ [k]) := by
  intro i
  rcases Nat.lt_trichotomy i l.length with h1 | h1 | h1
  · have := h i
    simpa [ix, List.getElem?_append_left h1] using this
  · subst h1
    simpa [ix, InI] using hk
  · simp [ix, List.getElem?_eq_none (show (l ++ [k]).length ≤ i by simp; omega)]
def paint (κ : Nat → Tg) (g : Nat) (t : Tg) : Nat → Tg := fun i => if i = g then t else κ i
theorem paint_agr {v : Value} {gg : Nat} (hc : Col κ t v) (hl : v.ownBlock = some gg ∨ gg = w.heap.size) : Agr κ (paint κ gg t) w := by
  intro i hi
  unfold paint
  split
  · rename_i e
    subst e
    rcases hl with h | h
    · exact (hc _ h).symm
    · omega
  · rfl
theorem RowsM.push (inj : ∀ x y, tg x = tg y → x = y) (hne : ∀ x, tg x ≠ tm) (h : RowsM κ tg tm H bm g R w) (x k : Int) (hk : InI k) {gg cap : Nat} {w1 w2 : World}
    (hlen : ((R x).length + 1) * 8 ≤ 140737488351232)
    (hown : w1.ownsRow H 3 1 (.slice (some ⟨gg, 0, none⟩) ((R x).length + 1) cap) ((R x).length + 1) ((List.range (R x).length).map (fun i => Value.int .i64 (ix (R x) i)) ++ [.int .i64 k]))
    (hg : w.grownBy w1 ((g x).getD nilS).ownBlock) (hl : ((g x).getD nilS).ownBlock = some gg ∨ gg = w.heap.size)
    (hm : MapIs (Value.int .i64) w2 bm (upd g x (some (.slice (some ⟨gg, 0, none⟩) ((R x).length + 1) cap)))) (hg2 : w1.grownBy w2 (some bm)) :
    Agr κ (paint κ gg (tg x)) w ∧ Turn (paint κ gg (tg x)) (tg x) w w1 ∧ Turn (paint κ gg (tg x)) tm w1 w2 ∧
    RowsM (paint κ gg (tg x)) tg tm H bm (upd g x (some (.slice (some ⟨gg, 0, none⟩) ((R x).length + 1) cap))) (pushR R x k) w2 := by
  have ha := paint_agr (w := w) (h.rowk x) hl
  have h1 : RowsM (paint κ gg (tg x)) tg tm H bm g R w := h.recol ha
  have t1 : Turn (paint κ gg (tg x)) (tg x) w w1 := .of_grown hg (h1.rowk x)
  have t2 : Turn (paint κ gg (tg x)) tm w1 w2 := .of_grown hg2 (fun b e => by cases e; exact h1.mapk)
  refine ⟨ha, t1, t2, hm, h1.mapk, fun y => ?_, fun y => ?_⟩
  · by_cases hy : y = x
    · subst hy
      rw [upd_same]
      simp only [Option.getD_some, pushR, if_true]
      refine ⟨⟨?_, by simpa using hlen⟩, (h.row y).2.push hk⟩
      rw [ix_append]
      have : (R y ++ [k]).length = (R y).length + 1 := by simp
      rw [this]
      exact rowTurn hown (s := tg y) (κ := paint κ gg (tg y)) (fun b e => by simp only [Value.ownBlock, Option.some.injEq] at e; subst e; simp [paint]) t2 (hne y)
    · rw [upd_other _ _ hy]
      simp only [pushR, if_neg hy]
      exact ((h1.row y).turn (h1.rowk y) t1 (fun e => hy (inj _ _ e))).turn (h1.rowk y) t2 (hne y)
  · by_cases hy : y = x
    · subst hy
      rw [upd_same]
      intro b e
      simp only [Option.getD_some, Value.ownBlock, Option.some.injEq] at e; subst e; simp [paint]
    · rw [upd_other _ _ hy]
      exact h1.rowk y
end
theorem RowsM.far {κ : Nat → Tg} {tg : Int → Tg} {tm s : Tg} {H bm b : Nat} {g : Int → Option Value} {R : Int → List Int} {w w' : World} (h : RowsM κ tg tm H bm g R w) (hs : κ b = s) (hne : ∀ x, tg x ≠ s) (x : Int) (hg : w.grownBy w' ((g x).getD nilS).ownBlock) (hb : b < w.heap.size) : w'.heap[b]? = w.heap[b]? :=
  hg.block b hb (fun e => hne x ((h.rowk x b e.symm).symm.trans hs))
abbrev RQ := GR × Value × Value × Value
def cells6 (q : RQ) : List Value := [.bool q.1.choice, q.2.1, .bool q.1.sum, .int .i64 q.1.bound, q.2.2.1, q.2.2.2]
structure RuleOwn (κ : Nat → Tg) (H : Nat) (w : World) (q : RQ) : Prop where
  head : OwnI H w q.2.1 q.1.head
  body : OwnI H w q.2.2.1 q.1.body
  wts : OwnI H w q.2.2.2 q.1.w
  bound : InI q.1.bound
  headk : Col κ .ro q.2.1
  bodyk : Col κ .ro q.2.2.1
  wtsk : Col κ .ro q.2.2.2
structure RulesOwn (κ : Nat → Tg) (H : Nat) (v : Value) (L : List RQ) (w : World) : Prop where
  row : w.ownsRow H 66 6 v L.length (L.flatMap cells6)
  rowk : Col κ .rules v
  each : ∀ q ∈ L, RuleOwn κ H w q
  fit : L.length * 88 ≤ 140737488351232
section
variable {κ κ' : Nat → Tg} {t : Tg} {w w' : World} {H : Nat} {v : Value} {L : List RQ} {q : RQ}
theorem RuleOwn.below (h : RuleOwn κ H w q) (hb : Below w.heap.size w w') : RuleOwn κ H w' q := ⟨h.head.below hb, h.body.below hb, h.wts.below hb, h.bound, h.headk, h.bodyk, h.wtsk⟩
theorem RuleOwn.recol (h : RuleOwn κ H w q) (ha : Agr κ κ' w) : RuleOwn κ' H w q := ⟨h.head, h.body, h.wts, h.bound, h.headk.mono h.head.1 ha, h.bodyk.mono h.body.1 ha, h.wtsk.mono h.wts.1 ha⟩
theorem RuleOwn.turn (h : RuleOwn κ H w q) (ht : Turn κ t w w') (hne : Tg.ro ≠ t) : RuleOwn κ H w' q := ⟨h.head.turn h.headk ht hne, h.body.turn h.bodyk ht hne, h.wts.turn h.wtsk ht hne, h.bound, h.headk, h.bodyk, h.wtsk⟩
theorem rowBelow {base E size n : Nat} {xs : List Value} (h : w.ownsRow base E size v n xs) (hb : Below w.heap.size w w') : w'.ownsRow base E size v n xs :=
  h.kept (row := none) ⟨hb.os, hb.tape, hb.output, hb.size, fun k hk _ => hb.block k hk⟩ (by cases v.ownBlock <;> simp)
theorem RulesOwn.below (h : RulesOwn κ H v L w) (hb : Below w.heap.size w w') : RulesOwn κ H v L w' := ⟨rowBelow h.row hb, h.rowk, fun q hq => (h.each q hq).below hb, h.fit⟩
theorem RulesOwn.recol (h : RulesOwn κ H v L w) (ha : Agr κ κ' w) : RulesOwn κ' H v L w := ⟨h.row, rowCol h.row h.rowk ha, fun q hq => (h.each q hq).recol ha, h.fit⟩
theorem RulesOwn.turn (h : RulesOwn κ H v L w) (ht : Turn κ t w w') (h1 : Tg.ro ≠ t) (h2 : Tg.rules ≠ t) : RulesOwn κ H v L w' := ⟨rowTurn h.row h.rowk ht h2, h.rowk, fun q hq => (h.each q hq).turn ht h1, h.fit⟩
theorem RulesOwn.nil (κ : Nat → Tg) (H : Nat) (w : World) : RulesOwn κ H nilS [] w := ⟨World.ownsRow_nil _ _ _ _, (fun g hg => by cases hg), (by simp), by simp⟩
theorem RulesOwn.push (h : RulesOwn κ H v L w) (hq : RuleOwn κ H w q) {gg cap : Nat} {w1 : World} (hlen : (L.length + 1) * 88 ≤ 140737488351232)
    (hown : w1.ownsRow H 66 6 (.slice (some ⟨gg, 0, none⟩) (L.length + 1) cap) (L.length + 1) (L.flatMap cells6 ++ cells6 q))
    (hg : w.grownBy w1 v.ownBlock) (hl : v.ownBlock = some gg ∨ gg = w.heap.size) :
    Agr κ (paint κ gg .rules) w ∧ Turn (paint κ gg .rules) .rules w w1 ∧ RulesOwn (paint κ gg .rules) H (.slice (some ⟨gg, 0, none⟩) (L.length + 1) cap) (L ++ [q]) w1 := by
  have ha := paint_agr (w := w) h.rowk hl
  have h1 := h.recol ha
  have hq1 := hq.recol ha
  have t1 : Turn (paint κ gg .rules) .rules w w1 := .of_grown hg h1.rowk
  refine ⟨ha, t1, ⟨?_, fun b e => by simp only [Value.ownBlock, Option.some.injEq] at e; subst e; simp [paint], fun q' hq' => ?_, by simpa using hlen⟩⟩
  · have e : (L ++ [q]).flatMap cells6 = L.flatMap cells6 ++ cells6 q := by simp
    rw [e, List.length_append, List.length_singleton]
    exact hown
  · rcases List.mem_append.1 hq' with hq' | hq'
    · exact (h1.each q' hq').turn t1 (by simp)
    · simp only [List.mem_singleton] at hq'
      subst hq'
      exact hq1.turn t1 (by simp)
end
structure Ext (w : World) where
  world : World
  below : Below w.heap.size w world
instance instExt (w : World) : Nonempty (Ext w) := ⟨⟨w, Below.refl _ _⟩⟩
theorem Ext.cell {w : World} (e : Ext w) (b o : Nat) (h : b < w.heap.size) : e.world.cell? ⟨b, o, none⟩ = w.cell? ⟨b, o, none⟩ := bcell e.below b o h
theorem wp_region_ext {P : Program} {id : Nat} {Q : Exit → Act → World → Prop} {a : Act} {w : World} {l : List Oper} (hm : P.follows .mixedOrders = true) (hB : Region.lexB .any l.toArray = true)
    (h : wpQuiet P l.toArray (fun w' => ∃ e : Ext w, w' = e.world) (fun a' => ∀ w', (∃ e : Ext w, w' = e.world) → Q .normal a' w') l a) : (Code.region id l.toArray true).wp P Q a w :=
  wp_region_quiet (C := fun w' => ∃ e : Ext w, w' = e.world) hm hB ⟨⟨_, (Below.refl _ w).drew⟩, rfl⟩ (by simpa using h)
theorem Calls.ext_of {P : Program} {f : FuncId} {args : Array Value} {w : World} {e : Ext w} {v : Value}
    (h : Calls P f args e.world fun x w' => x = .returned v ∧ Below e.world.heap.size e.world w') : Calls P f args e.world fun x w'' => x = .returned v ∧ ∃ e2 : Ext w, w'' = e2.world :=
  h.mono fun _ _ ⟨he, hb⟩ => ⟨he, ⟨_, bon e.below hb⟩, rfl⟩
theorem Calls.ext_of_same {P : Program} {f : FuncId} {args : Array Value} {w : World} {e : Ext w} {v : Value}
    (h : Calls P f args e.world fun x w' => x = .returned v ∧ e.world = w') : Calls P f args e.world fun x w'' => x = .returned v ∧ ∃ e2 : Ext w, w'' = e2.world :=
  h.mono fun _ _ ⟨he, hb⟩ => ⟨he, e, hb.symm⟩
end Go.Proofs.YteblddnoegbalaaGreat
