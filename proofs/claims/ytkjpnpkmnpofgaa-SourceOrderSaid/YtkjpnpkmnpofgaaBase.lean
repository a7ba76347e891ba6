/- What a slice of ints, of strings, a rule, a program hold in memory: predicates on worlds, and how they pass from world to world. -/
import Derived.Test.YtkjpnpkmnpofgaaProg
import Derived.WalkKit
import Derived.Lib.Hide
import Derived.Deep.QuietTactic
import Derived.BigQuiet
namespace Go.Proofs.Ytkjpnpkmnpofgaa
open Go.RowKit

/-- The element at a place; 0 beyond the end. -/
def ix (l : List Int) (i : Nat) : Int := l.getD i 0

theorem bcell {W w1 : World} (hb : Below W.heap.size W w1) : ∀ b o, b < W.heap.size → w1.cell? ⟨b, o, none⟩ = W.cell? ⟨b, o, none⟩ :=
  fun b o h => hb.cell (p := ⟨b, o, none⟩) h

theorem bfrozen {W w1 : World} (hb : Below W.heap.size W w1) : ∀ b o, b < W.heap.size → w1.frozen? ⟨b, o, none⟩ = W.frozen? ⟨b, o, none⟩ :=
  fun b o h => hb.frozen (p := ⟨b, o, none⟩) h

/-- On from a world that lies above. -/
theorem bon {w a b : World} (h : Below w.heap.size w a) (k : Below a.heap.size a b) : Below w.heap.size w b := h.trans (k.mono h.size)

theorem bal {w a : World} (h : Below w.heap.size w a) (o : Obj) : Below w.heap.size w (a.alloc o) := h.alloc h.size o

/-- A block of cells that may be written. -/
def Blk (w : World) (b : Nat) (c : List Value) (t : TypeId) : Prop := w.heap[b]? = some (.cells c.toArray t (0, 0))

theorem Blk.lt {w : World} {b : Nat} {c : List Value} {t : TypeId} (h : Blk w b c t) : b < w.heap.size := (Array.getElem?_eq_some_iff.1 h).1
theorem Blk.cell {w : World} {b : Nat} {c : List Value} {t : TypeId} (h : Blk w b c t) (o : Nat) : w.cell? ⟨b, o, none⟩ = c[o]? := by
  unfold Blk at h
  simp [World.cell?, h]
theorem Blk.free {w : World} {b : Nat} {c : List Value} {t : TypeId} (h : Blk w b c t) (o : Nat) : w.frozen? ⟨b, o, none⟩ = false := by
  unfold Blk at h
  simp [World.frozen?, h]
theorem Blk.new (w : World) (c : List Value) (t : TypeId) : Blk (w.alloc (.cells c.toArray t)) w.heap.size c t := heap_alloc_new w _
theorem Blk.new2 (w : World) (o : Obj) (c : List Value) (t : TypeId) : Blk ((w.alloc o).alloc (.cells c.toArray t)) (w.heap.size + 1) c t := by
  have := Blk.new (w.alloc o) c t
  simpa using this
theorem Blk.same {w w' : World} {b : Nat} {c : List Value} {t : TypeId} (h : Blk w b c t) (e : w'.heap[b]? = w.heap[b]?) : Blk w' b c t := e.trans h
theorem Blk.alloc {w : World} {b : Nat} {c : List Value} {t : TypeId} (h : Blk w b c t) (o : Obj) : Blk (w.alloc o) b c t := h.same (Below.heap_alloc _ _ _ h.lt)
theorem Blk.below {w w' : World} {b : Nat} {c : List Value} {t : TypeId} (h : Blk w b c t) (hb : Below w.heap.size w w') : Blk w' b c t := h.same (hb.block _ h.lt)
theorem Blk.set {w : World} {b : Nat} {c : List Value} {t : TypeId} (h : Blk w b c t) (o : Nat) (v : Value) : Blk (w.setCell ⟨b, o, none⟩ v) b (c.set o v) t := by
  unfold Blk at *
  show (w.heap.modify b _)[b]? = _
  rw [Array.getElem?_modify, if_pos rfl, h]
  simp
theorem Blk.setOther {w : World} {b : Nat} {c : List Value} {t : TypeId} (h : Blk w b c t) {b' : Nat} (o : Nat) (v : Value) (hne : b ≠ b') : Blk (w.setCell ⟨b', o, none⟩ v) b c t := h.same (Below.heap_setCell _ _ _ _ hne)
theorem Blk.drew {w : World} {b : Nat} {c : List Value} {t : TypeId} (h : Blk w b c t) : Blk w.drew b c t := h

/-- A slice of one-cell elements. -/
def Sl (w : World) (v : Value) (bytes n : Nat) (f : Nat → Value) : Prop :=
  ∃ a cap, v = .slice a n cap ∧ n ≤ cap ∧ cap ≤ maxLen ∧ n * bytes ≤ 140737488351232 ∧
    (0 < n → ∃ b off, a = some ⟨b, off, none⟩ ∧ b < w.heap.size ∧ ∀ i, i < n → w.cell? ⟨b, off + i, none⟩ = some (f i))

theorem Sl.below {w w' : World} {v : Value} {bytes n : Nat} {f : Nat → Value} (h : Sl w v bytes n f) (hb : Below w.heap.size w w') : Sl w' v bytes n f := by
  obtain ⟨a, cap, e, h1, hm, h2, h3⟩ := h
  exact ⟨a, cap, e, h1, hm, h2, fun h0 => let ⟨b, off, e, hl, hc⟩ := h3 h0; ⟨b, off, e, Nat.lt_of_lt_of_le hl hb.size, fun i hi => (bcell hb _ _ hl).trans (hc i hi)⟩⟩

/-- The slice's block, where there is an element. -/
def Apart (v : Value) (b : Nat) : Prop := ∀ b' o n cap, v = .slice (some ⟨b', o, none⟩) n cap → 0 < n → b' ≠ b

theorem Sl.setCell {w : World} {v : Value} {bytes n : Nat} {f : Nat → Value} (h : Sl w v bytes n f) {b : Nat} (o : Nat) (u : Value) (hne : Apart v b) : Sl (w.setCell ⟨b, o, none⟩ u) v bytes n f := by
  obtain ⟨a, cap, e, h1, hm, h2, h3⟩ := h
  refine ⟨a, cap, e, h1, hm, h2, fun h0 => ?_⟩
  obtain ⟨b', off, e', hl, hc⟩ := h3 h0
  have hb : b' ≠ b := hne b' off n cap (by rw [e, e']) h0
  refine ⟨b', off, e', by simpa [World.setCell] using hl, fun i hi => ?_⟩
  rw [← hc i hi]
  exact World.cell?_of_block (w := w) (Below.heap_setCell _ _ _ _ hb)

/-- Every number fits an int. -/
def Fits (l : List Int) : Prop := ∀ i, -9223372036854775808 ≤ ix l i ∧ ix l i ≤ 9223372036854775807

/-- A slice of ints reads as a list. -/
def Ints (w : World) (v : Value) (l : List Int) : Prop := Sl w v 8 l.length (fun i => .int .i64 (ix l i)) ∧ Fits l

theorem Ints.below {w w' : World} {v : Value} {l : List Int} (h : Ints w v l) (hb : Below w.heap.size w w') : Ints w' v l := ⟨h.1.below hb, h.2⟩

theorem Ints.setCell {w : World} {v : Value} {l : List Int} (h : Ints w v l) {b : Nat} (o : Nat) (u : Value) (hne : Apart v b) : Ints (w.setCell ⟨b, o, none⟩ u) v l := ⟨h.1.setCell o u hne, h.2⟩

theorem Ints.form {w : World} {v : Value} {l : List Int} (h : Ints w v l) : ∃ a cap, v = .slice a l.length cap ∧ l.length ≤ cap ∧ l.length ≤ 1000000000000000 ∧ Ints w (.slice a l.length cap) l ∧
    (0 < l.length → ∃ b off, a = some ⟨b, off, none⟩ ∧ b < w.heap.size ∧ ∀ i, i < l.length → w.cell? ⟨b, off + i, none⟩ = some (.int .i64 (ix l i))) := by
  have h0 := h
  obtain ⟨⟨a, cap, rfl, h1, hm, h2, h3⟩, h4⟩ := h
  exact ⟨a, cap, rfl, h1, by omega, h0, h3⟩

def allR (n : Nat) (f : Nat → Bool) : Bool := (List.range n).all f

theorem allR_true {n : Nat} {f : Nat → Bool} (h : ∀ j, j < n → f j = true) : allR n f = true := by
  simp [allR]; exact h

theorem allR_false {n : Nat} {f : Nat → Bool} (k : Nat) (hk : k < n) (h : f k = false) : allR n f = false := by
  simp [allR]; exact ⟨k, hk, h⟩

theorem allR_get {n : Nat} {f : Nat → Bool} (h : allR n f = true) (k : Nat) (hk : k < n) : f k = true := by
  simp [allR] at h; exact h k hk

def anyR (n : Nat) (f : Nat → Bool) : Bool := (List.range n).any f

theorem anyR_false {n : Nat} {f : Nat → Bool} (h : ∀ j, j < n → f j = false) : anyR n f = false := by
  simp [anyR]; exact h

theorem anyR_true {n : Nat} {f : Nat → Bool} (k : Nat) (hk : k < n) (h : f k = true) : anyR n f = true := by
  simp [anyR]; exact ⟨k, hk, h⟩

theorem lt_succ_all {P : Nat → Prop} {k : Nat} (h : ∀ j, j < k → P j) (hk : P k) : ∀ j, j < k + 1 → P j := by
  intro j hj
  rcases Nat.lt_or_ge j k with h1 | h1
  · exact h j h1
  · obtain rfl : j = k := by omega
    exact hk

theorem ret_int {k : IntKind} {a b : Int} (h : a = b) : Ending.returned (.int k a) = .returned (.int k b) := by rw [h]
theorem ret_bool {a b : Bool} (h : a = b) : Ending.returned (.bool a) = .returned (.bool b) := by rw [h]

end Go.Proofs.Ytkjpnpkmnpofgaa
