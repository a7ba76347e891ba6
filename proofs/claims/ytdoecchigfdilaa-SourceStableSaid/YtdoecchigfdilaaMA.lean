/- My texts Base, Cmp, Gp1, Gp2, Data, Gp3, Str, Map, Gp4, Ext, Gp5, Own, Own2, Src1, merged. -/
import Derived.Test.YtdoecchigfdilaaProg
import Derived.WalkKit
import Derived.Lib.Hide
import Derived.Deep.QuietTactic
import Derived.BigQuiet
import Derived.Lib.Bytealg
import Derived.MapKept
import Derived.Maps.OwnSet
import Derived.Maps.OwnOps
import Derived.WalkSpells
import Derived.Lib.SliceRun
import Derived.Deep.RegionWith
import Derived.Deep.DeepCutAuto
import Derived.Deep.DrawnRows

/- What a slice of ints, of strings, a rule, a program hold in memory: predicates on worlds, and how they pass from world to world. -/
namespace Go.Proofs.Ytdoecchigfdilaa
open Go.RowKit

/-- The element at a place; 0 beyond the end. -/
def ix (l : List Int) (i : Nat) : Int := l.getD i 0

theorem bcell {W w1 : World} (hb : Below W.heap.size W w1) : ∀ b o, b < W.heap.size → w1.cell? ⟨b, o, none⟩ = W.cell? ⟨b, o, none⟩ :=
  fun b o h => hb.cell (p := ⟨b, o, none⟩) h

theorem bfrozen {W w1 : World} (hb : Below W.heap.size W w1) : ∀ b o, b < W.heap.size → w1.frozen? ⟨b, o, none⟩ = W.frozen? ⟨b, o, none⟩ :=
  fun b o h => hb.frozen (p := ⟨b, o, none⟩) h

/-- On from a world that lies above. -/
theorem bon {w a b : World} (h : Below w.heap.size w a) (k : Below a.heap.size a b) : Below w.heap.size w b := h.trans (k.mono h.size)

theorem bal {w a : World} (h : Below w.heap.size w a) (o : Obj) : Below w.heap.size w (a.alloc o) := h.alloc h.size o

/-- A block of cells that may be written. -/
def Blk (w : World) (b : Nat) (c : List Value) (t : TypeId) : Prop := w.heap[b]? = some (.cells c.toArray t (0, 0))

theorem Blk.lt {w : World} {b : Nat} {c : List Value} {t : TypeId} (h : Blk w b c t) : b < w.heap.size := (Array.getElem?_eq_some_iff.1 h).1
theorem Blk.cell {w : World} {b : Nat} {c : List Value} {t : TypeId} (h : Blk w b c t) (o : Nat) : w.cell? ⟨b, o, none⟩ = c[o]? := by
  unfold Blk at h
  simp [World.cell?, h]
theorem Blk.free {w : World} {b : Nat} {c : List Value} {t : TypeId} (h : Blk w b c t) (o : Nat) : w.frozen? ⟨b, o, none⟩ = false := by
  unfold Blk at h
  simp [World.frozen?, h]
theorem Blk.new (w : World) (c : List Value) (t : TypeId) : Blk (w.alloc (.cells c.toArray t)) w.heap.size c t := heap_alloc_new w _
theorem Blk.new2 (w : World) (o : Obj) (c : List Value) (t : TypeId) : Blk ((w.alloc o).alloc (.cells c.toArray t)) (w.heap.size + 1) c t := by
  have := Blk.new (w.alloc o) c t
  simpa using this
theorem Blk.same {w w' : World} {b : Nat} {c : List Value} {t : TypeId} (h : Blk w b c t) (e : w'.heap[b]? = w.heap[b]?) : Blk w' b c t := e.trans h
theorem Blk.alloc {w : World} {b : Nat} {c : List Value} {t : TypeId} (h : Blk w b c t) (o : Obj) : Blk (w.alloc o) b c t := h.same (Below.heap_alloc _ _ _ h.lt)
theorem Blk.below {w w' : World} {b : Nat} {c : List Value} {t : TypeId} (h : Blk w b c t) (hb : Below w.heap.size w w') : Blk w' b c t := h.same (hb.block _ h.lt)
theorem Blk.set {w : World} {b : Nat} {c : List Value} {t : TypeId} (h : Blk w b c t) (o : Nat) (v : Value) : Blk (w.setCell ⟨b, o, none⟩ v) b (c.set o v) t := by
  unfold Blk at *
  show (w.heap.modify b _)[b]? = _
  rw [Array.getElem?_modify, if_pos rfl, h]
  simp
theorem Blk.setOther {w : World} {b : Nat} {c : List Value} {t : TypeId} (h : Blk w b c t) {b' : Nat} (o : Nat) (v : Value) (hne : b ≠ b') : Blk (w.setCell ⟨b', o, none⟩ v) b c t := h.same (Below.heap_setCell _ _ _ _ hne)
theorem Blk.drew {w : World} {b : Nat} {c : List Value} {t : TypeId} (h : Blk w b c t) : Blk w.drew b c t := h

/-- A slice of one-cell elements. -/
def Sl (w : World) (v : Value) (bytes n : Nat) (f : Nat → Value) : Prop :=
  ∃ a cap, v = .slice a n cap ∧ n ≤ cap ∧ cap ≤ maxLen ∧ n * bytes ≤ 140737488351232 ∧
    (0 < n → ∃ b off, a = some ⟨b, off, none⟩ ∧ b < w.heap.size ∧ ∀ i, i < n → w.cell? ⟨b, off + i, none⟩ = some (f i))

theorem Sl.below {w w' : World} {v : Value} {bytes n : Nat} {f : Nat → Value} (h : Sl w v bytes n f) (hb : Below w.heap.size w w') : Sl w' v bytes n f := by
  obtain ⟨a, cap, e, h1, hm, h2, h3⟩ := h
  exact ⟨a, cap, e, h1, hm, h2, fun h0 => let ⟨b, off, e, hl, hc⟩ := h3 h0; ⟨b, off, e, Nat.lt_of_lt_of_le hl hb.size, fun i hi => (bcell hb _ _ hl).trans (hc i hi)⟩⟩

/-- The slice's block, where there is an element. -/
def Apart (v : Value) (b : Nat) : Prop := ∀ b' o n cap, v = .slice (some ⟨b', o, none⟩) n cap → 0 < n → b' ≠ b

theorem Sl.setCell {w : World} {v : Value} {bytes n : Nat} {f : Nat → Value} (h : Sl w v bytes n f) {b : Nat} (o : Nat) (u : Value) (hne : Apart v b) : Sl (w.setCell ⟨b, o, none⟩ u) v bytes n f := by
  obtain ⟨a, cap, e, h1, hm, h2, h3⟩ := h
  refine ⟨a, cap, e, h1, hm, h2, fun h0 => ?_⟩
  obtain ⟨b', off, e', hl, hc⟩ := h3 h0
  have hb : b' ≠ b := hne b' off n cap (by rw [e, e']) h0
  refine ⟨b', off, e', by simpa [World.setCell] using hl, fun i hi => ?_⟩
  rw [← hc i hi]
  exact World.cell?_of_block (w := w) (Below.heap_setCell _ _ _ _ hb)

/-- Every number fits an int. -/
def Fits (l : List Int) : Prop := ∀ i, -9223372036854775808 ≤ ix l i ∧ ix l i ≤ 9223372036854775807

/-- A slice of ints reads as a list. -/
def Ints (w : World) (v : Value) (l : List Int) : Prop := Sl w v 8 l.length (fun i => .int .i64 (ix l i)) ∧ Fits l

theorem Ints.below {w w' : World} {v : Value} {l : List Int} (h : Ints w v l) (hb : Below w.heap.size w w') : Ints w' v l := ⟨h.1.below hb, h.2⟩

theorem Ints.setCell {w : World} {v : Value} {l : List Int} (h : Ints w v l) {b : Nat} (o : Nat) (u : Value) (hne : Apart v b) : Ints (w.setCell ⟨b, o, none⟩ u) v l := ⟨h.1.setCell o u hne, h.2⟩

theorem Ints.form {w : World} {v : Value} {l : List Int} (h : Ints w v l) : ∃ a cap, v = .slice a l.length cap ∧ l.length ≤ cap ∧ l.length ≤ 1000000000000000 ∧ Ints w (.slice a l.length cap) l ∧
    (0 < l.length → ∃ b off, a = some ⟨b, off, none⟩ ∧ b < w.heap.size ∧ ∀ i, i < l.length → w.cell? ⟨b, off + i, none⟩ = some (.int .i64 (ix l i))) := by
  have h0 := h
  obtain ⟨⟨a, cap, rfl, h1, hm, h2, h3⟩, h4⟩ := h
  exact ⟨a, cap, rfl, h1, by omega, h0, h3⟩

def allR (n : Nat) (f : Nat → Bool) : Bool := (List.range n).all f

theorem allR_true {n : Nat} {f : Nat → Bool} (h : ∀ j, j < n → f j = true) : allR n f = true := by
  simp [allR]; exact h

theorem allR_false {n : Nat} {f : Nat → Bool} (k : Nat) (hk : k < n) (h : f k = false) : allR n f = false := by
  simp [allR]; exact ⟨k, hk, h⟩

theorem allR_get {n : Nat} {f : Nat → Bool} (h : allR n f = true) (k : Nat) (hk : k < n) : f k = true := by
  simp [allR] at h; exact h k hk

def anyR (n : Nat) (f : Nat → Bool) : Bool := (List.range n).any f

theorem anyR_false {n : Nat} {f : Nat → Bool} (h : ∀ j, j < n → f j = false) : anyR n f = false := by
  simp [anyR]; exact h

theorem anyR_true {n : Nat} {f : Nat → Bool} (k : Nat) (hk : k < n) (h : f k = true) : anyR n f = true := by
  simp [anyR]; exact ⟨k, hk, h⟩

theorem lt_succ_all {P : Nat → Prop} {k : Nat} (h : ∀ j, j < k → P j) (hk : P k) : ∀ j, j < k + 1 → P j := by
  intro j hj
  rcases Nat.lt_or_ge j k with h1 | h1
  · exact h j h1
  · obtain rfl : j = k := by omega
    exact hk

theorem ret_int {k : IntKind} {a b : Int} (h : a = b) : Ending.returned (.int k a) = .returned (.int k b) := by rw [h]
theorem ret_bool {a b : Bool} (h : a = b) : Ending.returned (.bool a) = .returned (.bool b) := by rw [h]

end Go.Proofs.Ytdoecchigfdilaa

/- The contracts of cmp.Compare, cmp.Or, and of package gprog's small functions. -/
namespace Go.Proofs.Ytdoecchigfdilaa
open Go.RowKit

theorem isNaN_any (x : Int) (w : World) : Calls Try.prog 97 #[.int .i64 x] w fun e w' => e = .returned (.bool false) ∧ w = w' := by
  go_enter Try.func97, Try.ntmps97
  go_wp2
  go_ret
  exact ⟨rfl, rfl⟩

def cmpI (x y : Int) : Int := if x < y then -1 else if y < x then 1 else 0

theorem compare_any (x y : Int) (w : World) : Calls Try.prog 68 #[.int .i64 x, .int .i64 y] w fun e w' => e = .returned (.int .i64 (cmpI x y)) ∧ w = w' := by
  go_enter Try.func68, Try.ntmps68
  go_wp2_with (go_at_call 97; refine (isNaN_any _ _).mono ?_; rintro e w' ⟨rfl, rfl⟩)
  all_goals
    go_ret
    simp [cmpI, *]
  all_goals omega

def orI (x y : Int) : Int := if x = 0 then y else x

/-- 'cmp.Or' of two numbers that lie in a block of their own. -/
theorem or_any (x y : Int) (b : Nat) (w : World) (h0 : w.cell? ⟨b, 0, none⟩ = some (.int .i64 x)) (h1 : w.cell? ⟨b, 1, none⟩ = some (.int .i64 y)) :
    Calls Try.prog 67 #[.slice (some ⟨b, 0, none⟩) 2 2] w fun e w' => e = .returned (.int .i64 (orI x y)) ∧ w = w' := by
  go_enter Try.func67, Try.ntmps67
  go_wp2
  go_loop [8] (fun i => ∃ k : Nat, k ≤ 2 ∧ i = .int .i64 k ∧ (1 ≤ k → x = 0) ∧ (2 ≤ k → y = 0)) (fun i => 2 - (intOf i).toNat)
  case atStart => exact ⟨0, by omega, rfl, by intro h; omega, by intro h; omega⟩
  case round =>
    obtain ⟨k, hk, rfl, g0, g1⟩ := hrel
    obtain rfl | rfl | rfl : k = 0 ∨ k = 1 ∨ k = 2 := by omega
    · by_cases hx : x = 0
      · subst hx
        go_wp2
        go_round
        case rel => exact ⟨1, by omega, rfl, by intro _; trivial, by intro h; omega⟩
        case measure => simp [intOf]
      · have hxb : (x == 0) = false := by simp [hx]
        have hxc : (x != 0) = true := by simp [hx]
        go_wp2
        go_ret
        exact ⟨ret_int (by simp [orI, hx]), rfl⟩
    · obtain rfl := g0 (by omega)
      clear g0 g1
      by_cases hy : y = 0
      · subst hy
        go_wp2
        go_round
        case rel => exact ⟨2, by omega, rfl, by intro _; trivial, by intro _; trivial⟩
        case measure => simp [intOf]
      · have hxb : (y == 0) = false := by simp [hy]
        have hxc : (y != 0) = true := by simp [hy]
        go_wp2
        go_ret
        exact ⟨ret_int (by simp [orI]), rfl⟩
    · obtain rfl := g0 (by omega)
      obtain rfl := g1 (by omega)
      go_wp2
      go_ret
      exact ⟨ret_int (by simp [orI]), rfl⟩

theorem atom_any (x : Int) (w : World) (h : -4611686018427387904 ≤ x) (h' : x ≤ 4611686018427387904) : Calls Try.prog 69 #[.int .i64 x] w fun e w' => e = .returned (.int .i64 x.natAbs) ∧ w = w' := by
  go_enter Try.func69, Try.ntmps69
  go_wp2
  all_goals
    go_ret
    refine ⟨?_, rfl⟩
    simp
    omega

def ordI (x y : Int) : Int := orI (cmpI x.natAbs y.natAbs) (cmpI y x)

theorem order_any (x y : Int) (w : World) (h : -4611686018427387904 ≤ x ∧ x ≤ 4611686018427387904) (g : -4611686018427387904 ≤ y ∧ y ≤ 4611686018427387904) :
    Calls Try.prog 45 #[.int .i64 x, .int .i64 y] w fun e w' => e = .returned (.int .i64 (ordI x y)) ∧ Below w.heap.size w w' := by
  go_enter Try.func45, Try.ntmps45
  go_wp2_with (first
   | (go_at_call 69; refine (atom_any _ _ (by omega) (by omega)).mono ?_; rintro e w' ⟨rfl, rfl⟩)
   | (go_at_call 68; refine (compare_any _ _ _).mono ?_; rintro e w' ⟨rfl, rfl⟩)
   | (go_at_call 67; refine (or_any (cmpI x.natAbs y.natAbs) (cmpI y x) _ _ (by go_simp) (by go_simp)).mono ?_; rintro e w' ⟨rfl, rfl⟩))
  go_ret
  exact ⟨rfl, (Below.refl _ _).alloc (Nat.le_refl _) _⟩

def litB (x n : Int) : Bool := decide (x ≠ 0 ∧ -n ≤ x ∧ x ≤ n)

theorem literal_any (x n : Int) (w : World) (h : 0 ≤ n ∧ n ≤ 4611686018427387904) :
    Calls Try.prog 44 #[.int .i64 x, .int .i64 n] w fun e w' => e = .returned (.bool (litB x n)) ∧ w = w' := by
  go_enter Try.func44, Try.ntmps44
  by_cases h0 : x = 0
  · go_wp2
    go_ret
    simp [litB, h0]
  · have hb : (x != 0) = true := by simp [h0]
    go_wp2
    all_goals
      go_ret
      refine ⟨?_, rfl⟩
      simp [litB, h0]
      try omega

end Go.Proofs.Ytdoecchigfdilaa

/- Contracts of package gprog's checks: ordered, increasing, weights. -/
namespace Go.Proofs.Ytdoecchigfdilaa
open Go.RowKit

/-- The check of one place of an ordered list of literals. -/
def okAt (l : List Int) (n : Int) (i : Nat) : Bool := litB (ix l i) n && (i == 0 || decide (ordI (ix l (i - 1)) (ix l i) < 0))
def orderedB (l : List Int) (n : Int) : Bool := allR l.length (okAt l n)

theorem litB_bd {x n : Int} (h : litB x n = true) (hn : 0 ≤ n ∧ n ≤ 4611686018427387904) : -4611686018427387904 ≤ x ∧ x ≤ 4611686018427387904 := by
  simp [litB] at h; omega

theorem ordered_any (v : Value) (l : List Int) (n : Int) (w : World) (h : Ints w v l) (hn : 0 ≤ n ∧ n ≤ 4611686018427387904) :
    Calls Try.prog 18 #[v, .int .i64 n] w fun e w' => e = .returned (.bool (orderedB l n)) ∧ Below w.heap.size w w' := by
  obtain ⟨a, cap, rfl, hle, hB, -, hcell⟩ := h.form
  clear h
  go_enter Try.func18, Try.ntmps18
  go_wp2
  go_loopw [9] (fun i wr => ∃ k : Nat, k ≤ l.length ∧ i = .int .i64 k ∧ (∀ j, j < k → okAt l n j = true) ∧ Below w.heap.size w wr) (fun i _ => l.length - (intOf i).toNat)
  case atStart => exact ⟨0, by omega, rfl, by intro j hj; omega, Below.refl _ _⟩
  case round =>
    obtain ⟨k, hk, rfl, hok, hb⟩ := hrel
    have HOK := Lib.hid hok
    clear hok
    by_cases hlt : k < l.length
    · obtain ⟨b, off, rfl, hbl, hc⟩ := hcell (by omega)
      have hk1 : wr.cell? ⟨b, off + k, none⟩ = some (.int .i64 (ix l k)) := (bcell hb _ _ hbl).trans (hc k hlt)
      have hk2 : wr.cell? ⟨b, off + (k - 1), none⟩ = some (.int .i64 (ix l (k - 1))) := (bcell hb _ _ hbl).trans (hc (k - 1) (by omega))
      clear hc hcell
      cases hl : litB (ix l k) n with
      | false =>
        go_wp2_with (go_at_call 44; refine (literal_any _ _ _ (by omega)).mono ?_; rintro e w' ⟨rfl, rfl⟩)
        go_ret
        exact ⟨ret_bool (allR_false k hlt (by simp [okAt, hl])).symm, hb⟩
      | true =>
        have b1 := litB_bd hl hn
        by_cases hk0 : k = 0
        · have hfin : okAt l n k = true := by unfold okAt; rw [hl]; simp [hk0]
          have HF := Lib.hid hfin
          have hkp : ¬ (0 : Int) < (k : Int) := by omega
          clear hfin hk0
          go_wp2_with (go_at_call 44; refine (literal_any _ _ _ (by omega)).mono ?_; rintro e w' ⟨rfl, rfl⟩)
          go_roundw
          case rel => exact ⟨k + 1, by omega, by go_num, lt_succ_all HOK.out HF.out, hb⟩
          case measure => simp [intOf]; omega
        · have hkp : (0 : Int) < (k : Int) := by omega
          have hkn : (0 : Int) ≤ (k : Int) - 1 := by omega
          have hkm : ((k : Int) - 1).toNat = k - 1 := by omega
          have b2 := litB_bd (x := ix l (k - 1)) (n := n) (by have := HOK.out (k - 1) (by omega); simp [okAt] at this; exact this.1) hn
          have hfin : okAt l n k = decide (ordI (ix l (k - 1)) (ix l k) < 0) := by simp [okAt, hl, hk0]
          have HF := Lib.hid hfin
          clear hfin
          by_cases ho : ordI (ix l (k - 1)) (ix l k) < 0
          all_goals
            go_wp2_with (first
              | (go_at_call 44; refine (literal_any _ _ _ (by omega)).mono ?_; rintro e w' ⟨rfl, rfl⟩)
              | (go_at_call 45; refine (order_any _ _ _ (by omega) (by omega)).mono ?_; rintro e w1 ⟨rfl, hb1⟩))
          · go_roundw
            case rel => exact ⟨k + 1, by omega, by go_num, lt_succ_all HOK.out (by rw [HF.out]; simp [ho]), hb.trans (hb1.mono hb.size)⟩
            case measure => simp [intOf]; omega
          · go_ret
            exact ⟨ret_bool (allR_false k hlt (by rw [HF.out]; simp [ho])).symm, hb.trans (hb1.mono hb.size)⟩
    · have HL : Go.RowKit.Hid (k = l.length) := Lib.hid (by omega)
      go_wp2
      go_ret
      exact ⟨ret_bool (allR_true (by rw [← HL.out]; exact HOK.out)).symm, hb⟩

end Go.Proofs.Ytdoecchigfdilaa

/- Contracts of slices.Min and gprog.increasing, weights. -/
namespace Go.Proofs.Ytdoecchigfdilaa
open Go.RowKit

def IsMin (l : List Int) (m : Int) : Prop := (∀ i, i < l.length → m ≤ ix l i) ∧ ∃ i, i < l.length ∧ m = ix l i

def MinPost (l : List Int) (w : World) (e : Ending) (w' : World) : Prop := ∃ m : Int, e = .returned (.int .i64 m) ∧ IsMin l m ∧ w = w'

theorem min_any (v : Value) (l : List Int) (w : World) (h : Ints w v l) (h0 : 0 < l.length) :
    Calls Try.prog 65 #[v] w (MinPost l w) := by
  obtain ⟨a, cap, rfl, hle, hB, -, hcell⟩ := h.form
  clear h
  obtain ⟨b, off, rfl, hbl, hc⟩ := hcell h0
  have hk0 := hc 0 h0
  simp only [Nat.add_zero] at hk0
  clear hcell
  have HC := Lib.hid hc
  clear hc
  go_enter Try.func65, Try.ntmps65
  go_wp2
  go_loop [3, 4] (fun m i => ∃ (k : Nat) (x : Int), 1 ≤ k ∧ k ≤ l.length ∧ i = .int .i64 k ∧ m = .int .i64 x ∧ (∀ j, j < k → x ≤ ix l j) ∧ ∃ j, j < l.length ∧ x = ix l j) (fun _ i => l.length - (intOf i).toNat)
  case atStart =>
    refine ⟨1, ix l 0, by omega, by omega, rfl, rfl, ?_, 0, h0, rfl⟩
    exact fun j hj => by obtain rfl : j = 0 := by omega
                         exact Int.le_refl _
  -- j hj; obtain rfl : j = 0 := by omega; exact Int.le_refl _, 0, h0, rfl⟩⟩
  case round =>
    obtain ⟨k, x, hk0, hk, rfl, rfl, hmin, hex⟩ := hrel
    have HM := Lib.hid hmin
    have HE := Lib.hid hex
    clear hmin hex
    by_cases hlt : k < l.length
    · have hk1 := HC.out k hlt
      go_wp2
      all_goals
        go_round
        case rel =>
          refine ⟨k + 1, _, by omega, by omega, by go_num, rfl, lt_succ_all (fun j hj => ?_) ?_, ?_⟩
          · have := HM.out j hj; omega
          · omega
          · split
            · exact ⟨k, hlt, rfl⟩
            · exact HE.out
        case measure => simp [intOf]; omega
    · go_wp2
      go_ret
      exact ⟨x, rfl, ⟨fun i hi => HM.out i (by omega), HE.out⟩, rfl⟩

def increasingB (l : List Int) (n : Int) : Bool := orderedB l n && allR l.length (fun i => decide (0 < ix l i))

theorem increasing_any (v : Value) (l : List Int) (n : Int) (w : World) (h : Ints w v l) (hn : 0 ≤ n ∧ n ≤ 4611686018427387904) :
    Calls Try.prog 42 #[v, .int .i64 n] w fun e w' => e = .returned (.bool (increasingB l n)) ∧ Below w.heap.size w w' := by
  obtain ⟨a, cap, rfl, hle, hB, hi, -⟩ := h.form
  have H := Lib.hid hi
  clear h hi
  cases ho : orderedB l n with
  | false =>
    go_enter Try.func42, Try.ntmps42
    go_wp2_with (go_at_call 18; refine (ordered_any _ l n _ H.out hn).mono ?_; rintro e w1 ⟨rfl, hb1⟩)
    go_ret
    exact ⟨ret_bool (by simp [increasingB, ho]), hb1⟩
  | true =>
    by_cases h0 : l.length = 0
    · have hz : ((l.length : Int) == 0) = true := by simp [h0]
      have HZ := Lib.hid h0
      clear h0
      go_enter Try.func42, Try.ntmps42
      go_wp2_with (go_at_call 18; refine (ordered_any _ l n _ H.out hn).mono ?_; rintro e w1 ⟨rfl, hb1⟩)
      go_ret
      exact ⟨ret_bool (by simp [increasingB, ho, HZ.out, allR]), hb1⟩
    · have hz : ((l.length : Int) == 0) = false := by simp [h0]
      go_enter Try.func42, Try.ntmps42
      go_wp2_with (first
        | (go_at_call 18; refine (ordered_any _ l n _ H.out hn).mono ?_; rintro e w1 ⟨rfl, hb1⟩)
        | (go_at_call 65; refine (min_any _ l _ (H.out.below hb1) (by omega)).mono ?_; rintro e w2 ⟨m, rfl, hm, rfl⟩))
      go_ret
      refine ⟨ret_bool ?_, hb1⟩
      rw [increasingB, ho, Bool.true_and]
      by_cases hm0 : 0 < m
      · rw [allR_true (fun j hj => by have := hm.1 j hj; simp; omega)]
        simp [hm0]
      · obtain ⟨i, hi, e⟩ := hm.2
        rw [allR_false i hi (by simp; omega)]
        simp; omega

/-- The weights: each at least 1, their sum at most 1048576. -/
def sumTo (l : List Int) : Nat → Int
  | 0 => 0
  | k + 1 => sumTo l k + ix l k
def weightsB (l : List Int) (k : Int) : Bool := allR l.length (fun i => decide (1 ≤ ix l i ∧ ix l i ≤ 1048576 - sumTo l i)) && decide ((l.length : Int) = k)

theorem weights_any (v : Value) (l : List Int) (n : Int) (w : World) (h : Ints w v l) :
    Calls Try.prog 19 #[v, .int .i64 n] w fun e w' => e = .returned (.bool (weightsB l n)) ∧ w = w' := by
  obtain ⟨a, cap, rfl, hle, hB, -, hcell⟩ := h.form
  clear h
  go_enter Try.func19, Try.ntmps19
  go_wp2
  go_loop [5, 10] (fun s i => Hid (∃ (k : Nat), k ≤ l.length ∧ i = .int .i64 k ∧ s = .int .i64 (sumTo l k) ∧ (∀ j, j < k → 1 ≤ ix l j ∧ ix l j ≤ 1048576 - sumTo l j) ∧ 0 ≤ sumTo l k ∧ sumTo l k ≤ 1048576)) (fun _ i => l.length - (intOf i).toNat)
  case atStart => exact Lib.hid ⟨0, by omega, rfl, rfl, fun j hj => absurd hj (Nat.not_lt_zero _), by simp [sumTo], by simp [sumTo]⟩
  case round =>
    obtain ⟨k, hk, rfl, rfl, hall, hs0, hs1⟩ := hrel
    have HA := Lib.hid hall
    clear hall
    by_cases hlt : k < l.length
    · obtain ⟨b, off, rfl, hbl, hc⟩ := hcell (by omega)
      have hk1 := hc k hlt
      clear hc hcell
      by_cases h1 : 1 ≤ ix l k
      · by_cases h2 : ix l k ≤ 1048576 - sumTo l k
        · go_wp2
          first
            | (go_round
               case rel => (exact Lib.hid ⟨k + 1, by omega, by go_num, rfl, lt_succ_all HA.out ⟨h1, h2⟩, by rw [sumTo]; omega, by rw [sumTo]; omega⟩)
               case measure => (simp [intOf]; omega))
            | (refine ⟨?_, ?_⟩
               · (exact Lib.hid ⟨k + 1, by omega, by go_num, rfl, lt_succ_all HA.out ⟨h1, h2⟩, by rw [sumTo]; omega, by rw [sumTo]; omega⟩)
               · (simp [intOf]; omega))
        · go_wp2
          go_ret
          refine ⟨ret_bool ?_, rfl⟩
          rw [weightsB, allR_false k hlt (by simp [h1]; omega)]; rfl
      · go_wp2
        go_ret
        refine ⟨ret_bool ?_, rfl⟩
        rw [weightsB, allR_false k hlt (by simp; omega)]; rfl
    · have HL : Hid (k = l.length) := Lib.hid (by omega)
      go_wp2
      go_ret
      refine ⟨ret_bool ?_, rfl⟩
      rw [weightsB, allR_true (fun j hj => by simpa using HA.out j (by rw [HL.out]; exact hj))]
      rw [Bool.true_and, Bool.eq_iff_iff]; simp

end Go.Proofs.Ytdoecchigfdilaa

/- Rules, levels and programs as Lean data, and what it says that a Go value holds one of them. -/
namespace Go.Proofs.Ytdoecchigfdilaa
open Go.RowKit

/-- A rule. -/
structure GR where
  choice : Bool
  head : List Int
  sum : Bool
  bound : Int
  body : List Int
  w : List Int
  deriving Inhabited, DecidableEq

/-- A level of the objective. -/
structure GM where
  level : Int
  lits : List Int
  w : List Int
  deriving Inhabited, DecidableEq

/-- A program. -/
structure GP where
  n : Int
  names : List ByteArray
  shown : List Int
  rules : List GR
  min : List GM

def ixR (l : List GR) (i : Nat) : GR := l.getD i default
def ixM (l : List GM) (i : Nat) : GM := l.getD i default
def ixS (l : List ByteArray) (i : Nat) : ByteArray := l.getD i ⟨#[]⟩

def InI (x : Int) : Prop := -9223372036854775808 ≤ x ∧ x ≤ 9223372036854775807

/-- A slice of structs of sz cells each. -/
def Rows (w : World) (v : Value) (sz bytes n : Nat) (f : Nat → Nat → Value) : Prop :=
  ∃ a cap, v = .slice a n cap ∧ n ≤ cap ∧ cap ≤ maxLen ∧ n * bytes ≤ 140737488351232 ∧
    (0 < n → ∃ b off, a = some ⟨b, off, none⟩ ∧ b < w.heap.size ∧ ∀ i, i < n → ∀ j, j < sz → w.cell? ⟨b, off + i * sz + j, none⟩ = some (f i j))

theorem Rows.below {w w' : World} {v : Value} {sz bytes n : Nat} {f : Nat → Nat → Value} (h : Rows w v sz bytes n f) (hb : Below w.heap.size w w') : Rows w' v sz bytes n f := by
  obtain ⟨a, cap, e, h1, hm, h2, h3⟩ := h
  exact ⟨a, cap, e, h1, hm, h2, fun h0 => let ⟨b, off, e, hl, hc⟩ := h3 h0; ⟨b, off, e, Nat.lt_of_lt_of_le hl hb.size, fun i hi j hj => (bcell hb _ _ hl).trans (hc i hi j hj)⟩⟩

def ruleVal (r : GR) (vh vb vw : Value) : Value := .agg #[.bool r.choice, vh, .bool r.sum, .int .i64 r.bound, vb, vw]
def ruleCell (r : GR) (vh vb vw : Value) : Nat → Value
  | 0 => .bool r.choice
  | 1 => vh
  | 2 => .bool r.sum
  | 3 => .int .i64 r.bound
  | 4 => vb
  | _ => vw

/-- The three slices of a rule. -/
structure RuleSl (w : World) (r : GR) (vh vb vw : Value) : Prop where
  head : Ints w vh r.head
  body : Ints w vb r.body
  wts : Ints w vw r.w
  bound : InI r.bound

theorem RuleSl.below {w w' : World} {r : GR} {vh vb vw : Value} (h : RuleSl w r vh vb vw) (hb : Below w.heap.size w w') : RuleSl w' r vh vb vw :=
  ⟨h.head.below hb, h.body.below hb, h.wts.below hb, h.bound⟩

def RuleIs (w : World) (v : Value) (r : GR) : Prop := ∃ vh vb vw, v = .agg #[.bool r.choice, vh, .bool r.sum, .int .i64 r.bound, vb, vw] ∧ RuleSl w r vh vb vw

theorem RuleIs.below {w w' : World} {v : Value} {r : GR} (h : RuleIs w v r) (hb : Below w.heap.size w w') : RuleIs w' v r :=
  let ⟨vh, vb, vw, e, h1⟩ := h; ⟨vh, vb, vw, e, h1.below hb⟩

/-- A slice of rules reads as a list. -/
def RulesIs (w : World) (v : Value) (l : List GR) : Prop :=
  ∃ vh vb vw : Nat → Value, Rows w v 6 88 l.length (fun i => ruleCell (ixR l i) (vh i) (vb i) (vw i)) ∧ ∀ i, i < l.length → RuleSl w (ixR l i) (vh i) (vb i) (vw i)

theorem RulesIs.below {w w' : World} {v : Value} {l : List GR} (h : RulesIs w v l) (hb : Below w.heap.size w w') : RulesIs w' v l :=
  let ⟨vh, vb, vw, e, h1⟩ := h; ⟨vh, vb, vw, e.below hb, fun i hi => (h1 i hi).below hb⟩

def RuleCells (w : World) (b o : Nat) (r : GR) (vh vb vw : Value) : Prop :=
  w.cell? ⟨b, o, none⟩ = some (.bool r.choice) ∧ w.cell? ⟨b, o + 1, none⟩ = some vh ∧ w.cell? ⟨b, o + 2, none⟩ = some (.bool r.sum) ∧ w.cell? ⟨b, o + 3, none⟩ = some (.int .i64 r.bound) ∧ w.cell? ⟨b, o + 4, none⟩ = some vb ∧ w.cell? ⟨b, o + 5, none⟩ = some vw

theorem RuleCells.below {w w' : World} {b o : Nat} {r : GR} {vh vb vw : Value} (h : RuleCells w b o r vh vb vw) (hb : Below w.heap.size w w') (hl : b < w.heap.size) : RuleCells w' b o r vh vb vw :=
  ⟨(bcell hb _ _ hl).trans h.1, (bcell hb _ _ hl).trans h.2.1, (bcell hb _ _ hl).trans h.2.2.1, (bcell hb _ _ hl).trans h.2.2.2.1, (bcell hb _ _ hl).trans h.2.2.2.2.1, (bcell hb _ _ hl).trans h.2.2.2.2.2⟩

theorem RulesIs.form {w : World} {v : Value} {l : List GR} (h : RulesIs w v l) : ∃ a cap, v = .slice a l.length cap ∧ l.length ≤ cap ∧ l.length ≤ 1000000000000000 ∧ RulesIs w (.slice a l.length cap) l ∧
    (0 < l.length → ∃ b off, a = some ⟨b, off, none⟩ ∧ b < w.heap.size ∧ ∀ i, i < l.length → ∃ vh vb vw, RuleCells w b (off + i * 6) (ixR l i) vh vb vw ∧ RuleSl w (ixR l i) vh vb vw) := by
  have h0 := h
  obtain ⟨vh, vb, vw, ⟨a, cap, rfl, h1, hm, h2, h3⟩, h4⟩ := h
  refine ⟨a, cap, rfl, h1, by omega, h0, fun hp => ?_⟩
  obtain ⟨b, off, e, hl, hc⟩ := h3 hp
  exact ⟨b, off, e, hl, fun i hi => ⟨vh i, vb i, vw i, ⟨hc i hi 0 (by omega), hc i hi 1 (by omega), hc i hi 2 (by omega), hc i hi 3 (by omega), hc i hi 4 (by omega), hc i hi 5 (by omega)⟩, h4 i hi⟩⟩

/-- A slice of levels. -/
def minCell (m : GM) (vl vw : Value) : Nat → Value
  | 0 => .int .i64 m.level
  | 1 => vl
  | _ => vw

structure MinSl (w : World) (m : GM) (vl vw : Value) : Prop where
  lits : Ints w vl m.lits
  wts : Ints w vw m.w
  level : InI m.level

theorem MinSl.below {w w' : World} {m : GM} {vl vw : Value} (h : MinSl w m vl vw) (hb : Below w.heap.size w w') : MinSl w' m vl vw := ⟨h.lits.below hb, h.wts.below hb, h.level⟩

def MinsIs (w : World) (v : Value) (l : List GM) : Prop :=
  ∃ vl vw : Nat → Value, Rows w v 3 56 l.length (fun i => minCell (ixM l i) (vl i) (vw i)) ∧ ∀ i, i < l.length → MinSl w (ixM l i) (vl i) (vw i)

theorem MinsIs.below {w w' : World} {v : Value} {l : List GM} (h : MinsIs w v l) (hb : Below w.heap.size w w') : MinsIs w' v l :=
  let ⟨vl, vw, e, h1⟩ := h; ⟨vl, vw, e.below hb, fun i hi => (h1 i hi).below hb⟩

def MinCells (w : World) (b o : Nat) (m : GM) (vl vw : Value) : Prop :=
  w.cell? ⟨b, o, none⟩ = some (.int .i64 m.level) ∧ w.cell? ⟨b, o + 1, none⟩ = some vl ∧ w.cell? ⟨b, o + 2, none⟩ = some vw

theorem MinCells.below {w w' : World} {b o : Nat} {m : GM} {vl vw : Value} (h : MinCells w b o m vl vw) (hb : Below w.heap.size w w') (hl : b < w.heap.size) : MinCells w' b o m vl vw :=
  ⟨(bcell hb _ _ hl).trans h.1, (bcell hb _ _ hl).trans h.2.1, (bcell hb _ _ hl).trans h.2.2⟩

theorem MinsIs.form {w : World} {v : Value} {l : List GM} (h : MinsIs w v l) : ∃ a cap, v = .slice a l.length cap ∧ l.length ≤ cap ∧ l.length ≤ 1000000000000000 ∧ MinsIs w (.slice a l.length cap) l ∧
    (0 < l.length → ∃ b off, a = some ⟨b, off, none⟩ ∧ b < w.heap.size ∧ ∀ i, i < l.length → ∃ vl vw, MinCells w b (off + i * 3) (ixM l i) vl vw ∧ MinSl w (ixM l i) vl vw) := by
  have h0 := h
  obtain ⟨vl, vw, ⟨a, cap, rfl, h1, hm, h2, h3⟩, h4⟩ := h
  refine ⟨a, cap, rfl, h1, by omega, h0, fun hp => ?_⟩
  obtain ⟨b, off, e, hl, hc⟩ := h3 hp
  exact ⟨b, off, e, hl, fun i hi => ⟨vl i, vw i, ⟨hc i hi 0 (by omega), hc i hi 1 (by omega), hc i hi 2 (by omega)⟩, h4 i hi⟩⟩

/-- A slice of strings. -/
def Strs (w : World) (v : Value) (l : List ByteArray) : Prop := Sl w v 16 l.length (fun i => .string (ixS l i)) ∧ ∀ i, (ixS l i).size ≤ 140737488351232

theorem Strs.below {w w' : World} {v : Value} {l : List ByteArray} (h : Strs w v l) (hb : Below w.heap.size w w') : Strs w' v l := ⟨h.1.below hb, h.2⟩

theorem Strs.form {w : World} {v : Value} {l : List ByteArray} (h : Strs w v l) : ∃ a cap, v = .slice a l.length cap ∧ l.length ≤ cap ∧ l.length ≤ 1000000000000000 ∧ Strs w (.slice a l.length cap) l ∧ (∀ i, (ixS l i).size ≤ 140737488351232) ∧
    (0 < l.length → ∃ b off, a = some ⟨b, off, none⟩ ∧ b < w.heap.size ∧ ∀ i, i < l.length → w.cell? ⟨b, off + i, none⟩ = some (.string (ixS l i))) := by
  have h0 := h
  obtain ⟨⟨a, cap, rfl, h1, hm, h2, h3⟩, h4⟩ := h
  exact ⟨a, cap, rfl, h1, by omega, h0, h4, h3⟩

/-- The parts of a program. -/
structure ProgSl (w : World) (p : GP) (vn vs vr vm : Value) : Prop where
  n : InI p.n
  names : Strs w vn p.names
  shown : Ints w vs p.shown
  rules : RulesIs w vr p.rules
  min : MinsIs w vm p.min

theorem ProgSl.below {w w' : World} {p : GP} {vn vs vr vm : Value} (h : ProgSl w p vn vs vr vm) (hb : Below w.heap.size w w') : ProgSl w' p vn vs vr vm :=
  ⟨h.n, h.names.below hb, h.shown.below hb, h.rules.below hb, h.min.below hb⟩

def ProgIs (w : World) (v : Value) (p : GP) : Prop := ∃ vn vs vr vm, v = .agg #[.int .i64 p.n, vn, vs, vr, vm] ∧ ProgSl w p vn vs vr vm

theorem ProgIs.below {w w' : World} {v : Value} {p : GP} (h : ProgIs w v p) (hb : Below w.heap.size w w') : ProgIs w' v p :=
  let ⟨vn, vs, vr, vm, e, h1⟩ := h; ⟨vn, vs, vr, vm, e, h1.below hb⟩

end Go.Proofs.Ytdoecchigfdilaa

/- The contract of gprog.Rule. -/
namespace Go.Proofs.Ytdoecchigfdilaa
open Go.RowKit

def ruleE (r : GR) (n : Int) : Int :=
  if n < 0 ∨ 4000 < n then 2
  else if increasingB r.head n = false ∨ (r.choice = true ∧ r.head.length = 0) then 172
  else if orderedB r.body n = false then 173
  else if (r.sum = false ∧ (0 < r.w.length ∨ r.bound ≠ 0)) ∨ (r.sum = true ∧ (weightsB r.w r.body.length = false ∨ r.bound < 0 ∨ 1048576 < r.bound)) then 174
  else 0

set_option maxHeartbeats 1000000 in
theorem rule_any (v : Value) (r : GR) (n : Int) (w : World) (h : RuleIs w v r) :
    Calls Try.prog 17 #[v, .int .i64 n] w fun e w' => e = .returned (.int .i64 (ruleE r n)) ∧ Below w.heap.size w w' := by
  obtain ⟨vh, vb, vw, rfl, hh, hbd, hw, hbi⟩ := h
  have hal := bal (Below.refl w.heap.size w) (.cells #[.bool r.choice, vh, .bool r.sum, .int .i64 r.bound, vb, vw] 41)
  have HH := Lib.hid (hh.below hal)
  have HB := Lib.hid (hbd.below hal)
  have HW := Lib.hid (hw.below hal)
  obtain ⟨a1, c1, rfl, -, hl1, -, -⟩ := hh.form
  obtain ⟨a2, c2, rfl, -, hl2, -, -⟩ := hbd.form
  obtain ⟨a3, c3, rfl, -, hl3, -, -⟩ := hw.form
  clear hh hbd hw
  have hun := fun (x : Int) (e : ruleE r n = x) => e
  obtain ⟨ch, hd, sm, bd, bo, wt⟩ := r
  simp only at *
  have HU := Lib.hid hun
  clear hun
  by_cases hn : n < 0 ∨ 4000 < n
  · have HF : Hid (_ = (2 : Int)) := Lib.hid (HU.out 2 (if_pos hn))
    by_cases hn1 : n < 0
    · go_enter Try.func17, Try.ntmps17
      go_wp2
      go_ret
      exact ⟨ret_int HF.out.symm, hal⟩
    · have hn2 : 4000 < n := by omega
      go_enter Try.func17, Try.ntmps17
      go_wp2
      go_ret
      exact ⟨ret_int HF.out.symm, hal⟩
  have hn1 : ¬ n < 0 := by omega
  have hn2 : ¬ 4000 < n := by omega
  cases hi : increasingB hd n with
  | false =>
    have HF : Hid (_ = (172 : Int)) := Lib.hid (HU.out 172 (by simp [ruleE, hn, hi]))
    go_enter Try.func17, Try.ntmps17
    go_wp2_with (first
                  | (go_at_call 42; refine (increasing_any _ _ n _ HH.out (by omega)).mono ?_; rintro e w1 ⟨rfl, hb1⟩; have hc1 := bcell hb1)
                  | (go_at_call 18; refine (ordered_any _ _ n _ (HB.out.below hb1) (by omega)).mono ?_; rintro e w2 ⟨rfl, hb2⟩; have hz2 : w.heap.size < w1.heap.size := (by have := hb1.size; simp at this; omega); have hc2 := bcell hb2)
                  | (go_at_call 19; refine (weights_any _ _ _ _ ((HW.out.below hb1).below hb2)).mono ?_; rintro e w3 ⟨rfl, rfl⟩))
    go_ret
    exact ⟨ret_int HF.out.symm, bon hal hb1⟩
  | true =>
    by_cases hch : ch = true ∧ hd.length = 0
    · have HF : Hid (_ = (172 : Int)) := Lib.hid (HU.out 172 (by simp [ruleE, hn, hi, hch]))
      obtain ⟨rfl, hch2⟩ := hch
      have hch3 : ((hd.length : Int) == 0) = true := by simp [hch2]
      clear hch2
      go_enter Try.func17, Try.ntmps17
      go_wp2_with (first
                    | (go_at_call 42; refine (increasing_any _ _ n _ HH.out (by omega)).mono ?_; rintro e w1 ⟨rfl, hb1⟩; have hc1 := bcell hb1)
                    | (go_at_call 18; refine (ordered_any _ _ n _ (HB.out.below hb1) (by omega)).mono ?_; rintro e w2 ⟨rfl, hb2⟩; have hz2 : w.heap.size < w1.heap.size := (by have := hb1.size; simp at this; omega); have hc2 := bcell hb2)
                    | (go_at_call 19; refine (weights_any _ _ _ _ ((HW.out.below hb1).below hb2)).mono ?_; rintro e w3 ⟨rfl, rfl⟩))
      go_ret
      exact ⟨ret_int HF.out.symm, bon hal hb1⟩
    have hch' : ch = false ∨ (ch = true ∧ ((hd.length : Int) == 0) = false) := by
      cases ch with
      | false => exact .inl rfl
      | true => exact .inr ⟨rfl, by simp at hch; simp [hch]⟩
    have HC := Lib.hid hch
    clear hch
    cases ho : orderedB bo n with
    | false =>
      have HF : Hid (_ = (173 : Int)) := Lib.hid (HU.out 173 (by simp only [ruleE, if_neg hn, hi, HC.out, ho]; simp))
      rcases hch' with rfl | ⟨rfl, hch3⟩
      all_goals
        go_enter Try.func17, Try.ntmps17
        go_wp2_with (first
                      | (go_at_call 42; refine (increasing_any _ _ n _ HH.out (by omega)).mono ?_; rintro e w1 ⟨rfl, hb1⟩; have hc1 := bcell hb1)
                      | (go_at_call 18; refine (ordered_any _ _ n _ (HB.out.below hb1) (by omega)).mono ?_; rintro e w2 ⟨rfl, hb2⟩; have hz2 : w.heap.size < w1.heap.size := (by have := hb1.size; simp at this; omega); have hc2 := bcell hb2)
                      | (go_at_call 19; refine (weights_any _ _ _ _ ((HW.out.below hb1).below hb2)).mono ?_; rintro e w3 ⟨rfl, rfl⟩))
        go_ret
        exact ⟨ret_int HF.out.symm, bon (bon hal hb1) hb2⟩
    | true =>
      have HG : Hid (ruleE ⟨ch, hd, sm, bd, bo, wt⟩ n = if (sm = false ∧ (0 < wt.length ∨ bd ≠ 0)) ∨ (sm = true ∧ (weightsB wt bo.length = false ∨ bd < 0 ∨ 1048576 < bd)) then 174 else 0) :=
        Lib.hid (by simp only [ruleE, if_neg hn, hi, HC.out, ho]; simp)
      cases sm with
      | false =>
        by_cases hl0 : 0 < wt.length
        · have HF : Hid (_ = (174 : Int)) := Lib.hid (HU.out 174 (by rw [HG.out]; simp [hl0]))
          rcases hch' with rfl | ⟨rfl, hch3⟩
          all_goals
            go_enter Try.func17, Try.ntmps17
            go_wp2_with (first
                          | (go_at_call 42; refine (increasing_any _ _ n _ HH.out (by omega)).mono ?_; rintro e w1 ⟨rfl, hb1⟩; have hc1 := bcell hb1)
                          | (go_at_call 18; refine (ordered_any _ _ n _ (HB.out.below hb1) (by omega)).mono ?_; rintro e w2 ⟨rfl, hb2⟩; have hz2 : w.heap.size < w1.heap.size := (by have := hb1.size; simp at this; omega); have hc2 := bcell hb2)
                          | (go_at_call 19; refine (weights_any _ _ _ _ ((HW.out.below hb1).below hb2)).mono ?_; rintro e w3 ⟨rfl, rfl⟩))
            go_ret
            exact ⟨ret_int HF.out.symm, bon (bon hal hb1) hb2⟩
        · have hl1' : ¬ (0 : Int) < (wt.length : Int) := by omega
          by_cases hb0 : bd = 0
          · have HF : Hid (_ = (0 : Int)) := Lib.hid (HU.out 0 (by rw [HG.out]; simp [hb0]; simpa using hl0))
            subst hb0
            rcases hch' with rfl | ⟨rfl, hch3⟩
            all_goals
              go_enter Try.func17, Try.ntmps17
              go_wp2_with (first
                            | (go_at_call 42; refine (increasing_any _ _ n _ HH.out (by omega)).mono ?_; rintro e w1 ⟨rfl, hb1⟩; have hc1 := bcell hb1)
                            | (go_at_call 18; refine (ordered_any _ _ n _ (HB.out.below hb1) (by omega)).mono ?_; rintro e w2 ⟨rfl, hb2⟩; have hz2 : w.heap.size < w1.heap.size := (by have := hb1.size; simp at this; omega); have hc2 := bcell hb2)
                            | (go_at_call 19; refine (weights_any _ _ _ _ ((HW.out.below hb1).below hb2)).mono ?_; rintro e w3 ⟨rfl, rfl⟩))
              go_ret
              exact ⟨ret_int HF.out.symm, bon (bon hal hb1) hb2⟩
          · have HF : Hid (_ = (174 : Int)) := Lib.hid (HU.out 174 (by rw [HG.out]; simp [hb0]))
            have hb1 : (bd == 0) = false := by simp [hb0]
            have hb2 : (bd != 0) = true := by simp [hb0]
            rcases hch' with rfl | ⟨rfl, hch3⟩
            all_goals
              go_enter Try.func17, Try.ntmps17
              go_wp2_with (first
                            | (go_at_call 42; refine (increasing_any _ _ n _ HH.out (by omega)).mono ?_; rintro e w1 ⟨rfl, hb1⟩; have hc1 := bcell hb1)
                            | (go_at_call 18; refine (ordered_any _ _ n _ (HB.out.below hb1) (by omega)).mono ?_; rintro e w2 ⟨rfl, hb2⟩; have hz2 : w.heap.size < w1.heap.size := (by have := hb1.size; simp at this; omega); have hc2 := bcell hb2)
                            | (go_at_call 19; refine (weights_any _ _ _ _ ((HW.out.below hb1).below hb2)).mono ?_; rintro e w3 ⟨rfl, rfl⟩))
              go_ret
              exact ⟨ret_int HF.out.symm, bon (bon hal ‹_›) ‹_›⟩
      | true =>
        cases hwt : weightsB wt bo.length with
        | false =>
          have HF : Hid (_ = (174 : Int)) := Lib.hid (HU.out 174 (by rw [HG.out, hwt]; simp))
          rcases hch' with rfl | ⟨rfl, hch3⟩
          all_goals
            go_enter Try.func17, Try.ntmps17
            go_wp2_with (first
                          | (go_at_call 42; refine (increasing_any _ _ n _ HH.out (by omega)).mono ?_; rintro e w1 ⟨rfl, hb1⟩; have hc1 := bcell hb1)
                          | (go_at_call 18; refine (ordered_any _ _ n _ (HB.out.below hb1) (by omega)).mono ?_; rintro e w2 ⟨rfl, hb2⟩; have hz2 : w.heap.size < w1.heap.size := (by have := hb1.size; simp at this; omega); have hc2 := bcell hb2)
                          | (go_at_call 19; refine (weights_any _ _ _ _ ((HW.out.below hb1).below hb2)).mono ?_; rintro e w3 ⟨rfl, rfl⟩))
            go_ret
            exact ⟨ret_int HF.out.symm, bon (bon hal ‹_›) ‹_›⟩
        | true =>
          have HF : Hid (_ = if bd < 0 ∨ 1048576 < bd then (174 : Int) else 0) := Lib.hid (HU.out _ (by rw [HG.out, hwt]; simp))
          by_cases hx : bd < 0
          · rw [if_pos (.inl hx)] at HF
            rcases hch' with rfl | ⟨rfl, hch3⟩
            all_goals
              go_enter Try.func17, Try.ntmps17
              go_wp2_with (first
                            | (go_at_call 42; refine (increasing_any _ _ n _ HH.out (by omega)).mono ?_; rintro e w1 ⟨rfl, hb1⟩; have hc1 := bcell hb1)
                            | (go_at_call 18; refine (ordered_any _ _ n _ (HB.out.below hb1) (by omega)).mono ?_; rintro e w2 ⟨rfl, hb2⟩; have hz2 : w.heap.size < w1.heap.size := (by have := hb1.size; simp at this; omega); have hc2 := bcell hb2)
                            | (go_at_call 19; refine (weights_any _ _ _ _ ((HW.out.below hb1).below hb2)).mono ?_; rintro e w3 ⟨rfl, rfl⟩))
              go_ret
              exact ⟨ret_int HF.out.symm, bon (bon hal ‹_›) ‹_›⟩
          by_cases hy : 1048576 < bd
          · rw [if_pos (.inr hy)] at HF
            rcases hch' with rfl | ⟨rfl, hch3⟩
            all_goals
              go_enter Try.func17, Try.ntmps17
              go_wp2_with (first
                            | (go_at_call 42; refine (increasing_any _ _ n _ HH.out (by omega)).mono ?_; rintro e w1 ⟨rfl, hb1⟩; have hc1 := bcell hb1)
                            | (go_at_call 18; refine (ordered_any _ _ n _ (HB.out.below hb1) (by omega)).mono ?_; rintro e w2 ⟨rfl, hb2⟩; have hz2 : w.heap.size < w1.heap.size := (by have := hb1.size; simp at this; omega); have hc2 := bcell hb2)
                            | (go_at_call 19; refine (weights_any _ _ _ _ ((HW.out.below hb1).below hb2)).mono ?_; rintro e w3 ⟨rfl, rfl⟩))
              go_ret
              exact ⟨ret_int HF.out.symm, bon (bon hal ‹_›) ‹_›⟩
          · rw [if_neg (by omega)] at HF
            rcases hch' with rfl | ⟨rfl, hch3⟩
            all_goals
              go_enter Try.func17, Try.ntmps17
              go_wp2_with (first
                            | (go_at_call 42; refine (increasing_any _ _ n _ HH.out (by omega)).mono ?_; rintro e w1 ⟨rfl, hb1⟩; have hc1 := bcell hb1)
                            | (go_at_call 18; refine (ordered_any _ _ n _ (HB.out.below hb1) (by omega)).mono ?_; rintro e w2 ⟨rfl, hb2⟩; have hz2 : w.heap.size < w1.heap.size := (by have := hb1.size; simp at this; omega); have hc2 := bcell hb2)
                            | (go_at_call 19; refine (weights_any _ _ _ _ ((HW.out.below hb1).below hb2)).mono ?_; rintro e w3 ⟨rfl, rfl⟩))
              go_ret
              exact ⟨ret_int HF.out.symm, bon (bon hal ‹_›) ‹_›⟩

end Go.Proofs.Ytdoecchigfdilaa

/- Contracts of strings.Contains at one byte. -/
namespace Go.Proofs.Ytdoecchigfdilaa
open Go.RowKit

set_option maxRecDepth 100000 in
theorem indexByte_any (s : ByteArray) (c : Int) (w : World) :
    Calls Try.prog 110 #[.string s, .int .u8 c] w fun e w' => e = .returned (.int .i64 (Lib.indexByte s.data.toList c.toNat.toUInt8)) ∧ w = w' := by
  go_enter Try.func110, Try.ntmps110
  go_wp2
  rw [run_callFunc_extern Try.func116 (by kernel_rfl) (by kernel_rfl) (by kernel_rfl) (e := Extern.BytealgIndexByte.indexByte) (by kernel_rfl), Lib.run_indexByteString]
  simp only [Result.andThen]
  rw [Oper.upon_value]
  go_wp2
  go_ret
  exact ⟨rfl, rfl⟩

/-- A line break in a string: the place of the first, or -1. -/
def nlI (s : ByteArray) : Int := Lib.indexByte s.data.toList 10
def nlB (s : ByteArray) : Bool := decide (0 ≤ nlI s)

theorem indexNl_any (s : ByteArray) (w : World) :
    Calls Try.prog 96 #[.string s, .string ⟨#[10]⟩] w fun e w' => e = .returned (.int .i64 (nlI s)) ∧ w = w' := by
  go_enter Try.func96, Try.ntmps96
  go_wp2_with (go_at_call 110; refine (indexByte_any _ _ _).mono ?_; rintro e w' ⟨rfl, rfl⟩)
  · have h : ([10] == s.toList) = true := by assumption
    go_ret
    refine ⟨ret_int ?_, rfl⟩
    rw [nlI]
    have h2 : s.data.toList = [10] := by
      have h3 : [10] = s.toList := by simpa using h
      rw [h3]
      exact (Lib.toList_data s).symm
    rw [h2]; rfl
  · go_ret
    exact ⟨ret_int rfl, rfl⟩

theorem stringsIndexNl_any (s : ByteArray) (w : World) :
    Calls Try.prog 66 #[.string s, .string ⟨#[10]⟩] w fun e w' => e = .returned (.int .i64 (nlI s)) ∧ w = w' := by
  go_enter Try.func66, Try.ntmps66
  go_wp2_with (go_at_call 96; refine (indexNl_any _ _).mono ?_; rintro e w' ⟨rfl, rfl⟩)
  go_ret
  exact ⟨ret_int rfl, rfl⟩

theorem containsNl_any (s : ByteArray) (w : World) :
    Calls Try.prog 43 #[.string s, .string ⟨#[10]⟩] w fun e w' => e = .returned (.bool (nlB s)) ∧ w = w' := by
  go_enter Try.func43, Try.ntmps43
  go_wp2_with (go_at_call 66; refine (stringsIndexNl_any _ _).mono ?_; rintro e w' ⟨rfl, rfl⟩)
  go_ret
  exact ⟨ret_bool rfl, rfl⟩

end Go.Proofs.Ytdoecchigfdilaa

/- A map in memory as a function from keys to values: what a look-up, a store and a delete do to it. -/
namespace Go.Proofs.Ytdoecchigfdilaa
open Go.RowKit Go.MapKept

/-- A kind of keys. -/
structure KV {κ : Type} (kv : κ → Value) (d : TypeDesc) : Prop where
  inj : ∀ a b, kv a = kv b → a = b
  key : ∀ a, IsKey d (kv a)

theorem kvInt : KV (Value.int .i64) (.int .i64) := ⟨fun a b h => by injection h, fun _ => rfl⟩
theorem kvStr : KV Value.string .string := ⟨fun a b h => by injection h, fun _ => trivial⟩

/-- The map in block b holds g. -/
def MapIs {κ : Type} (kv : κ → Value) (w : World) (b : Nat) (g : κ → Option Value) : Prop :=
  ∃ es clock, w.heap[b]? = some (.map es clock) ∧ Stamped es clock ∧ (∀ x ∈ es.toList, ∃ k, x.key = kv k) ∧ ∀ k v, g k = some v ↔ ∃ x ∈ es.toList, x.key = kv k ∧ x.val = v

section
variable {κ : Type} {kv : κ → Value} {d : TypeDesc} {P : Program} {w : World} {b : Nat} {g : κ → Option Value} {t kt et : TypeId}

theorem MapIs.same {w' : World} (h : MapIs kv w b g) (hb : w'.heap[b]? = w.heap[b]?) : MapIs kv w' b g := by
  obtain ⟨es, clock, h1, h2⟩ := h
  exact ⟨es, clock, hb.trans h1, h2⟩

theorem MapIs.lt (h : MapIs kv w b g) : b < w.heap.size := by
  obtain ⟨es, clock, h1, h2⟩ := h
  exact (Array.getElem?_eq_some_iff.1 h1).1

theorem MapIs.made (w : World) : MapIs kv (w.alloc (.map #[] 0)) w.heap.size (fun _ => none) :=
  ⟨#[], 0, (heap_alloc w _).1, stamped_empty 0, by simp, by simp⟩

theorem MapIs.made2 (w : World) (b : Nat) (h : b = w.heap.size) : MapIs kv (w.alloc (.map #[] 0)) b (fun _ => none) := by subst h; exact MapIs.made w

theorem MapIs.alloc (h : MapIs kv w b g) (o : Obj) : MapIs kv (w.alloc o) b g := h.same (Below.heap_alloc _ _ _ h.lt)
theorem MapIs.drew (h : MapIs kv w b g) : MapIs kv w.drew b g := h
theorem MapIs.below {w' : World} (h : MapIs kv w b g) (hb : Below w.heap.size w w') : MapIs kv w' b g := h.same (hb.block _ h.lt)
theorem MapIs.blk {c : List Value} {t : TypeId} {b' : Nat} (h : MapIs kv w b g) (h' : Blk w b' c t) : b' ≠ b := by
  rintro rfl
  obtain ⟨es, clock, h1, _⟩ := h
  unfold Blk at h'
  rw [h1] at h'
  cases h'
theorem MapIs.setCell (h : MapIs kv w b g) (b' o : Nat) (v : Value) : MapIs kv (w.setCell ⟨b', o, none⟩ v) b g := by
  obtain ⟨es, clock, h1, h2⟩ := h
  refine ⟨es, clock, ?_, h2⟩
  show (w.heap.modify b' _)[b]? = _
  rw [Array.getElem?_modify]
  split
  · rw [h1]; rfl
  · exact h1

theorem MapIs.lookup (h : MapIs kv w b g) (V : KV kv d) (ht : P.underlying t = some (.map kt et)) (hd : P.underlying kt = some d) {z : Value} (hz : (zeroValue et).run P w = .ok z w) (k : κ) :
    (Instr.lookup t (.map (some b)) (kv k) false).run P w = .ok ((g k).getD z) w := by
  obtain ⟨es, clock, hb, hs, hks, hg⟩ := h
  have hks' : ∀ x ∈ es.toList, IsKey d x.key := fun x hx => let ⟨k, e⟩ := hks x hx; e ▸ V.key k
  rcases findNow_spec (V.key k) es.toList 0 hks' with ⟨h1, h2⟩ | ⟨j, e, h1, h2, h3⟩
  · have hn : g k = none := by
      cases hgk : g k with
      | none => rfl
      | some v => obtain ⟨x, hx, hxk, _⟩ := (hg k v).1 hgk; exact absurd hxk (h2 x hx)
    simp [Instr.lookup, run_underlying ht, Go.MapKept.run_getObj_map hb, run_checkKey hd (V.key k), run_findKey hd h1, hz, Result.andThen, hn]
  · have hm : e ∈ es.toList := List.mem_of_getElem? h2
    have hn : g k = some e.val := (hg k _).2 ⟨e, hm, h3, rfl⟩
    simp [Instr.lookup, run_underlying ht, Go.MapKept.run_getObj_map hb, run_checkKey hd (V.key k), run_findKey hd h1, Result.andThen, hn]

theorem MapIs.lookup_ok (h : MapIs kv w b g) (V : KV kv d) (ht : P.underlying t = some (.map kt et)) (hd : P.underlying kt = some d) {z : Value} (hz : (zeroValue et).run P w = .ok z w) (k : κ) :
    (Instr.lookup t (.map (some b)) (kv k) true).run P w = .ok (.tuple #[(g k).getD z, .bool (g k).isSome]) w := by
  obtain ⟨es, clock, hb, hs, hks, hg⟩ := h
  have hks' : ∀ x ∈ es.toList, IsKey d x.key := fun x hx => let ⟨k, e⟩ := hks x hx; e ▸ V.key k
  rcases findNow_spec (V.key k) es.toList 0 hks' with ⟨h1, h2⟩ | ⟨j, e, h1, h2, h3⟩
  · have hn : g k = none := by
      cases hgk : g k with
      | none => rfl
      | some v => obtain ⟨x, hx, hxk, _⟩ := (hg k v).1 hgk; exact absurd hxk (h2 x hx)
    simp [Instr.lookup, run_underlying ht, Go.MapKept.run_getObj_map hb, run_checkKey hd (V.key k), run_findKey hd h1, hz, Result.andThen, hn]
  · have hm : e ∈ es.toList := List.mem_of_getElem? h2
    have hn : g k = some e.val := (hg k _).2 ⟨e, hm, h3, rfl⟩
    simp [Instr.lookup, run_underlying ht, Go.MapKept.run_getObj_map hb, run_checkKey hd (V.key k), run_findKey hd h1, Result.andThen, hn]

/-- A function with one place set. -/
def upd [DecidableEq κ] (g : κ → Option Value) (k : κ) (v : Option Value) : κ → Option Value := fun x => if x = k then v else g x

theorem upd_same [DecidableEq κ] (g : κ → Option Value) (k : κ) (v : Option Value) : upd g k v k = v := by simp [upd]
theorem upd_other [DecidableEq κ] (g : κ → Option Value) {k x : κ} (v : Option Value) (h : x ≠ k) : upd g k v x = g x := by simp [upd, h]

theorem grownBy_set {o : Obj} (b : Nat) (o' : Obj) (hb : w.heap[b]? = some o) : w.grownBy { w with heap := w.heap.setIfInBounds b o' } (some b) :=
  ⟨rfl, rfl, rfl, by simp, fun i _ hi => (heap_set hb).2 i (fun e => hi (by rw [e]))⟩

theorem Array.getElem_mem_toList {α : Type} {a : Array α} {i : Nat} (h : i < a.size) : a[i] ∈ a.toList := by simp

theorem MapIs.update [DecidableEq κ] (h : MapIs kv w b g) (V : KV kv d) (ht : P.underlying t = some (.map kt et)) (hd : P.underlying kt = some d) (k : κ) (v : Value) :
    ∃ w', (Instr.mapUpdate t (.map (some b)) (kv k) v).run P w = .ok () w' ∧ MapIs kv w' b (upd g k (some v)) ∧ w.grownBy w' (some b) ∧ w'.heap.size = w.heap.size := by
  obtain ⟨es, clock, hb, hs, hks, hg⟩ := h
  have hks' : ∀ x ∈ es.toList, IsKey d x.key := fun x hx => let ⟨k, e⟩ := hks x hx; e ▸ V.key k
  rcases findNow_spec (V.key k) es.toList 0 hks' with ⟨h1, h2⟩ | ⟨j, e, h1, h2, h3⟩
  · refine ⟨{ w with heap := w.heap.setIfInBounds b (.map (es.push { key := kv k, val := v, born := clock }) (clock + 1)) }, ?_, ⟨_, _, (heap_set hb).1, stamped_push hs h2, ?_, ?_⟩, grownBy_set b _ hb, by simp⟩
    · simp [Instr.mapUpdate, run_underlying ht, Go.MapKept.run_getObj_map hb, run_checkKey hd (V.key k), run_findKey hd h1, Go.MapKept.run_setObj_map _ hb, Result.andThen]
    · intro x hx
      simp only [Array.toList_push, List.mem_append, List.mem_singleton] at hx
      rcases hx with hx | rfl
      · exact hks x hx
      · exact ⟨k, rfl⟩
    · intro k' v'
      simp only [Array.toList_push, List.mem_append, List.mem_singleton, upd]
      by_cases hk : k' = k
      · subst hk
        rw [if_pos rfl]
        constructor
        · intro e; cases e; exact ⟨_, .inr rfl, rfl, rfl⟩
        · rintro ⟨x, hx | rfl, h4, h5⟩
          · exact absurd h4 (h2 x hx)
          · rw [← h5]
      · rw [if_neg hk, hg]
        constructor
        · rintro ⟨x, hx, h4⟩; exact ⟨x, .inl hx, h4⟩
        · rintro ⟨x, hx | rfl, h4, h5⟩
          · exact ⟨x, hx, h4, h5⟩
          · exact absurd (V.inj _ _ h4).symm hk
  · have hj : es[j]? = some e := by simpa using h2
    have hm : e ∈ es.toList := List.mem_of_getElem? h2
    have hkey : ∀ e', es[j]? = some e' → ({ e' with key := kv k, val := v } : MapEntry).key = e'.key := fun e' he' => by rw [hj] at he'; cases he'; exact h3.symm
    have hjl : j < es.size := (Array.getElem?_eq_some_iff.1 hj).1
    have hej : es[j] = e := by rw [Array.getElem?_eq_getElem hjl] at hj; exact Option.some.inj hj
    refine ⟨{ w with heap := w.heap.setIfInBounds b (.map (es.modify j fun e => { e with key := kv k, val := v }) clock) }, ?_, ⟨_, _, (heap_set hb).1, stamped_modify hs _ _ (fun _ _ => rfl) (fun e' _ he' => hkey e' he'), ?_, ?_⟩, grownBy_set b _ hb, by simp⟩
    · simp [Instr.mapUpdate, run_underlying ht, Go.MapKept.run_getObj_map hb, run_checkKey hd (V.key k), run_findKey hd h1, hj, h3, run_keyThatStays (V.key k), Go.MapKept.run_setObj_map _ hb, Result.andThen]
    · intro x hx
      obtain ⟨i, hi, rfl⟩ := List.mem_iff_getElem.1 hx
      simp only [Array.length_toList, Array.size_modify] at hi
      simp only [Array.getElem_toList, Array.getElem_modify]
      split
      · exact ⟨k, rfl⟩
      · exact hks _ (by simp)
    · intro k' v'
      simp only [upd]
      by_cases hk : k' = k
      · subst hk
        rw [if_pos rfl]
        constructor
        · intro e'; cases e'
          refine ⟨(es.modify j fun e => { e with key := kv k', val := v })[j]'(by simpa using hjl), Array.getElem_mem_toList _, ?_, ?_⟩ <;> rw [Array.getElem_modify, if_pos rfl]
        · rintro ⟨x, hx, h4, h5⟩
          obtain ⟨i, hi, rfl⟩ := List.mem_iff_getElem.1 hx
          simp only [Array.length_toList, Array.size_modify] at hi
          simp only [Array.getElem_toList, Array.getElem_modify] at h4 h5
          by_cases hij : j = i
          · rw [if_pos hij] at h5; rw [← h5]
          · rw [if_neg hij] at h4 h5
            have hpw := (stamped_iff es clock).1 hs |>.2.2
            exfalso
            have hne : ∀ (p q : Nat) (hp : p < es.size) (hq : q < es.size), p < q → es[p].key ≠ es[q].key := fun p q hp hq hpq => by
              have := List.pairwise_iff_getElem.1 hpw p q (by simpa using hp) (by simpa using hq) hpq
              simpa using this
            rcases Nat.lt_or_gt_of_ne hij with hlt | hlt
            · exact hne j i hjl hi hlt (by rw [hej, h3, h4])
            · exact hne i j hi hjl hlt (by rw [hej, h3, h4])
      · rw [if_neg hk, hg]
        constructor
        · rintro ⟨x, hx, h4, h5⟩
          obtain ⟨i, hi, rfl⟩ := List.mem_iff_getElem.1 hx
          simp only [Array.length_toList] at hi
          simp only [Array.getElem_toList] at h4 h5
          have hij : j ≠ i := fun e' => by subst e'; rw [hej, h3] at h4; exact hk (V.inj _ _ h4).symm
          refine ⟨(es.modify j fun e => { e with key := kv k, val := v })[i]'(by simpa using hi), Array.getElem_mem_toList _, ?_, ?_⟩ <;> simp only [Array.getElem_modify, if_neg hij] <;> assumption
        · rintro ⟨x, hx, h4, h5⟩
          obtain ⟨i, hi, rfl⟩ := List.mem_iff_getElem.1 hx
          simp only [Array.length_toList, Array.size_modify] at hi
          simp only [Array.getElem_toList, Array.getElem_modify] at h4 h5
          by_cases hij : j = i
          · rw [if_pos hij] at h4; exact absurd (V.inj _ _ h4).symm hk
          · rw [if_neg hij] at h4 h5
            exact ⟨es[i], by simp, h4, h5⟩

theorem MapIs.delete [DecidableEq κ] (h : MapIs kv w b g) (V : KV kv d) (ht : P.underlying t = some (.map kt et)) (hd : P.underlying kt = some d) (k : κ) (ty : TypeId) :
    ∃ w', (Builtin.delete_ #[t, kt] ty #[.map (some b), kv k]).run P w = .ok (.tuple #[]) w' ∧ MapIs kv w' b (upd g k none) ∧ w.grownBy w' (some b) ∧ w'.heap.size = w.heap.size := by
  obtain ⟨es, clock, hb, hs, hks, hg⟩ := h
  have hks' : ∀ x ∈ es.toList, IsKey d x.key := fun x hx => let ⟨k, e⟩ := hks x hx; e ▸ V.key k
  rcases findNow_spec (V.key k) es.toList 0 hks' with ⟨h1, h2⟩ | ⟨j, e, h1, h2, h3⟩
  · refine ⟨{ w with heap := w.heap.setIfInBounds b (.map es clock) }, ?_, ⟨_, _, (heap_set hb).1, hs, hks, ?_⟩, grownBy_set b _ hb, by simp⟩
    · simp [Builtin.delete_, run_underlying ht, Go.MapKept.run_getObj_map hb, run_checkKey hd (V.key k), run_findKey hd h1, Go.MapKept.run_setObj_map _ hb, Result.andThen]
    · intro k' v'
      simp only [upd]
      by_cases hk : k' = k
      · subst hk
        rw [if_pos rfl]
        constructor
        · intro e; cases e
        · rintro ⟨x, hx, h4, _⟩; exact absurd h4 (h2 x hx)
      · rw [if_neg hk, hg]
  · have hjl : j < es.size := by
      have := (List.getElem?_eq_some_iff.1 h2).1
      simpa using this
    have hm : e ∈ es.toList := List.mem_of_getElem? h2
    have he : es.eraseIdxIfInBounds j = es.eraseIdx j hjl := by simp [Array.eraseIdxIfInBounds, hjl]
    refine ⟨{ w with heap := w.heap.setIfInBounds b (.map (es.eraseIdxIfInBounds j) clock) }, ?_, ⟨_, _, (heap_set hb).1, stamped_erase hs _, ?_, ?_⟩, grownBy_set b _ hb, by simp⟩
    · simp [Builtin.delete_, run_underlying ht, Go.MapKept.run_getObj_map hb, run_checkKey hd (V.key k), run_findKey hd h1, Go.MapKept.run_setObj_map _ hb, Result.andThen]
    · intro x hx
      rw [he, Array.toList_eraseIdx] at hx
      exact hks x ((List.eraseIdx_sublist _ _).subset hx)
    · intro k' v'
      rw [he, Array.toList_eraseIdx]
      have hmem : ∀ x, x ∈ es.toList.eraseIdx j ↔ x ∈ es.toList ∧ x.key ≠ kv k := by
        intro x
        have hpw := (stamped_iff es clock).1 hs |>.2.2
        constructor
        · intro hx
          refine ⟨(List.eraseIdx_sublist _ _).subset hx, fun hkx => ?_⟩
          obtain ⟨i, hij, hi⟩ := List.mem_eraseIdx_iff_getElem?.1 hx
          have hne : ∀ (p q : Nat) (a c : MapEntry), es.toList[p]? = some a → es.toList[q]? = some c → p < q → a.key ≠ c.key := fun p q a c hp hq hpq => by
            obtain ⟨hp1, hp2⟩ := List.getElem?_eq_some_iff.1 hp
            obtain ⟨hq1, hq2⟩ := List.getElem?_eq_some_iff.1 hq
            have := List.pairwise_iff_getElem.1 hpw p q hp1 hq1 hpq
            rw [hp2, hq2] at this
            exact this
          rcases Nat.lt_or_gt_of_ne hij with hlt | hlt
          · exact hne i j _ _ hi h2 hlt (by rw [hkx, h3])
          · exact hne j i _ _ h2 hi hlt (by rw [hkx, h3])
        · rintro ⟨hx, hkx⟩
          obtain ⟨i, hi, hxi⟩ := List.mem_iff_getElem.1 hx
          refine List.mem_eraseIdx_iff_getElem?.2 ⟨i, fun e' => ?_, by rw [List.getElem?_eq_getElem hi, hxi]⟩
          subst e'
          rw [List.getElem?_eq_getElem hi, hxi] at h2
          cases h2
          exact hkx h3
      simp only [upd]
      by_cases hk : k' = k
      · subst hk
        rw [if_pos rfl]
        constructor
        · intro e; cases e
        · rintro ⟨x, hx, h4, _⟩; exact absurd h4 ((hmem x).1 hx).2
      · rw [if_neg hk, hg]
        constructor
        · rintro ⟨x, hx, h4, h5⟩
          exact ⟨x, (hmem x).2 ⟨hx, fun e' => hk (V.inj _ _ (h4.symm.trans e'))⟩, h4, h5⟩
        · rintro ⟨x, hx, h4, h5⟩
          exact ⟨x, ((hmem x).1 hx).1, h4, h5⟩

end

/-! ### at the operation, for the walk -/
section
variable {κ : Type} {kv : κ → Value} {d : TypeDesc} {P : Program} {w : World} {ops : Array Oper} {rest : List Oper} {o : Oper} {a : Act} {Q : Exit → Act → World → Prop}

theorem wpList_mlook (g : κ → Option Value) (b : Nat) (k : κ) (V : KV kv d) (t kt et : TypeId) (ht : P.underlying t = some (.map kt et)) (hd : P.underlying kt = some d) (z : Value) (hz : ∀ w, (zeroValue et).run P w = .ok z w)
    (hg : o.guard = none) (m x : Operand) (hop : o.op = Op.lookup t m x false) (hm : a.eval m = .map (some b)) (hx : a.eval x = kv k) (h : MapIs kv w b g)
    (hK : wpList P ops Q rest (a.put o.dst ((g k).getD z)) w) : wpList P ops Q (o :: rest) a w := by
  refine wpList_plain hg fun K' hK' => ?_
  unfold Oper.wp
  simp [execOp, hop, hm, hx, h.lookup V ht hd (hz w) k, Result.andThen]
  exact hK' _ _ hK

theorem wpList_mlook_ok (g : κ → Option Value) (b : Nat) (k : κ) (V : KV kv d) (t kt et : TypeId) (ht : P.underlying t = some (.map kt et)) (hd : P.underlying kt = some d) (z : Value) (hz : ∀ w, (zeroValue et).run P w = .ok z w)
    (hg : o.guard = none) (m x : Operand) (hop : o.op = Op.lookup t m x true) (hm : a.eval m = .map (some b)) (hx : a.eval x = kv k) (h : MapIs kv w b g)
    (hK : wpList P ops Q rest (a.put o.dst (.tuple #[(g k).getD z, .bool (g k).isSome])) w) : wpList P ops Q (o :: rest) a w := by
  refine wpList_plain hg fun K' hK' => ?_
  unfold Oper.wp
  simp [execOp, hop, hm, hx, h.lookup_ok V ht hd (hz w) k, Result.andThen]
  exact hK' _ _ hK

theorem wpList_mput [DecidableEq κ] (g : κ → Option Value) (b : Nat) (k : κ) (v : Value) (V : KV kv d) (t kt et : TypeId) (ht : P.underlying t = some (.map kt et)) (hd : P.underlying kt = some d)
    (hg : o.guard = none) (m x y : Operand) (hop : o.op = Op.mapUpdate t m x y) (hm : a.eval m = .map (some b)) (hx : a.eval x = kv k) (hy : a.eval y = v) (h : MapIs kv w b g)
    (hK : ∀ w', MapIs kv w' b (upd g k (some v)) → w.grownBy w' (some b) → w'.heap.size = w.heap.size → wpList P ops Q rest (a.put o.dst undef) w') : wpList P ops Q (o :: rest) a w := by
  refine wpList_plain hg fun K' hK' => ?_
  obtain ⟨w', hrun, r1, r2, r3⟩ := h.update V ht hd k v
  unfold Oper.wp
  simp [execOp, hop, hm, hx, hy, hrun, Result.andThen]
  exact hK' _ _ (hK w' r1 r2 r3)

theorem wpList_mdel [DecidableEq κ] (g : κ → Option Value) (b : Nat) (k : κ) (V : KV kv d) (t kt et : TypeId) (ht : P.underlying t = some (.map kt et)) (hd : P.underlying kt = some d)
    (hg : o.guard = none) (m x : Operand) (hop : o.op = Op.call { callee := Callee.builtin Builtin.delete, args := #[m, x], argTypes := #[t, kt] }) (hm : a.eval m = .map (some b)) (hx : a.eval x = kv k) (h : MapIs kv w b g)
    (hK : ∀ w', MapIs kv w' b (upd g k none) → w.grownBy w' (some b) → w'.heap.size = w.heap.size → wpList P ops Q rest (a.put o.dst (.tuple #[])) w') : wpList P ops Q (o :: rest) a w := by
  refine wpList_plain hg fun K' hK' => ?_
  obtain ⟨w', hrun, r1, r2, r3⟩ := h.delete V ht hd k o.type
  unfold Oper.wp
  simp [execOp, hop, resolve, invoke, builtin, hm, hx, hrun, Result.andThen]
  exact hK' _ _ (hK w' r1 r2 r3)

end

end Go.Proofs.Ytdoecchigfdilaa

/- The contract of gprog.named. -/
namespace Go.Proofs.Ytdoecchigfdilaa
open Go.RowKit

def emptyS (s : ByteArray) : Bool := s.toList.isEmpty

/-- The check of the name at place i. -/
def nameAt (l : List ByteArray) (i : Nat) : Bool := decide ((ixS l i).size ≤ 200) && !nlB (ixS l i) && (emptyS (ixS l i) || allR i (fun j => decide (ixS l j ≠ ixS l i)))
def namesB (l : List ByteArray) : Bool := allR l.length (nameAt l)

/-- The names met in the first k places. -/
def metTo (l : List ByteArray) (k : Nat) : ByteArray → Option Value := fun s => if emptyS s = false ∧ anyR k (fun j => decide (ixS l j = s)) = true then some (.int .i64 1) else none

def NamedRel (l : List ByteArray) (w : World) (b : Nat) (i : Value) (wr : World) : Prop :=
  ∃ k : Nat, k ≤ l.length ∧ i = .int .i64 k ∧ (∀ j, j < k → nameAt l j = true) ∧ Below w.heap.size w wr ∧ w.heap.size ≤ b ∧ MapIs Value.string wr b (metTo l k)

theorem metTo_zero (l : List ByteArray) : metTo l 0 = fun _ => none := by funext s; simp [metTo, anyR]

theorem named_loop_ok (l : List ByteArray) (k : Nat) (hn : nameAt l k = true) (he : emptyS (ixS l k) = false) : metTo l k (ixS l k) = none ∧ metTo l (k + 1) = upd (metTo l k) (ixS l k) (some (.int .i64 1)) := by
  simp only [nameAt, he, Bool.false_or, Bool.and_eq_true] at hn
  constructor
  · rw [metTo, if_neg]
    rintro ⟨_, h⟩
    simp only [anyR, List.any_eq_true, List.mem_range, decide_eq_true_eq] at h
    obtain ⟨j, hj, e⟩ := h
    have := allR_get hn.2 j hj
    simp [e] at this
  · funext s
    simp only [upd, metTo]
    by_cases hs : s = ixS l k
    · subst hs
      rw [if_pos rfl, if_pos ⟨he, anyR_true k (by omega) (by simp)⟩]
    · rw [if_neg hs]
      congr 1
      simp only [anyR, List.any_eq_true, List.mem_range, decide_eq_true_eq, eq_iff_iff, and_congr_right_iff]
      intro _
      constructor
      · rintro ⟨j, hj, e⟩
        refine ⟨j, ?_, e⟩
        rcases Nat.lt_or_ge j k with h | h
        · exact h
        · obtain rfl : j = k := by omega
          exact absurd e.symm hs
      · rintro ⟨j, hj, e⟩; exact ⟨j, by omega, e⟩

theorem named_loop_empty (l : List ByteArray) (k : Nat) (he : emptyS (ixS l k) = true) : metTo l (k + 1) = metTo l k := by
  funext s
  simp only [metTo]
  congr 1
  simp only [anyR, List.any_eq_true, List.mem_range, decide_eq_true_eq, eq_iff_iff, and_congr_right_iff]
  intro hs
  constructor
  · rintro ⟨j, hj, e⟩
    refine ⟨j, ?_, e⟩
    rcases Nat.lt_or_ge j k with h | h
    · exact h
    · obtain rfl : j = k := by omega
      rw [e] at he; rw [he] at hs; cases hs
  · rintro ⟨j, hj, e⟩; exact ⟨j, by omega, e⟩

def namedB (p : GP) : Bool := decide (0 ≤ p.n ∧ p.n ≤ 4000 ∧ (p.names.length : Int) = p.n) && increasingB p.shown p.n && namesB p.names

def NamedPost (p : GP) (w : World) (e : Ending) (w' : World) : Prop := e = .returned (.bool (namedB p)) ∧ Below w.heap.size w w'

set_option maxHeartbeats 1000000 in
set_option maxRecDepth 100000 in
theorem named_any (v : Value) (p : GP) (w : World) (h : ProgIs w v p) :
    Calls Try.prog 16 #[v] w (NamedPost p w) := by
  obtain ⟨vn, vs, vr, vm, rfl, hn, hnames, hshown, hrules, hmin⟩ := h
  have hal := bal (Below.refl w.heap.size w) (.cells #[.int .i64 p.n, vn, vs, vr, vm] 27)
  have HS := Lib.hid (hshown.below hal)
  have HN := Lib.hid (hnames.below hal)
  clear hrules hmin
  obtain ⟨a1, c1, rfl, -, hl1, -, hsz, hcell⟩ := hnames.form
  obtain ⟨a2, c2, rfl, -, hl2, -, -⟩ := hshown.form
  clear hshown hnames
  by_cases h1 : p.n < 0
  · have HF : Hid (namedB p = false) := Lib.hid (by simp [namedB]; omega)
    go_enter Try.func16, Try.ntmps16
    go_wp2
    go_ret
    exact ⟨ret_bool HF.out.symm, hal⟩
  by_cases h2 : 4000 < p.n
  · have HF : Hid (namedB p = false) := Lib.hid (by simp [namedB]; omega)
    go_enter Try.func16, Try.ntmps16
    go_wp2
    go_ret
    exact ⟨ret_bool HF.out.symm, hal⟩
  by_cases h3 : (p.names.length : Int) = p.n
  case neg =>
    have HF : Hid (namedB p = false) := Lib.hid (by simp [namedB]; omega)
    have h4 : ((p.names.length : Int) != p.n) = true := by simp [h3]
    have h5 : ((p.names.length : Int) == p.n) = false := by simp [h3]
    go_enter Try.func16, Try.ntmps16
    go_wp2
    go_ret
    exact ⟨ret_bool HF.out.symm, hal⟩
  have h4 : ((p.names.length : Int) != p.n) = false := by simp [h3]
  have h5 : ((p.names.length : Int) == p.n) = true := by simp [h3]
  have H3 := Lib.hid h3
  clear h3
  cases h6 : increasingB p.shown p.n with
  | false =>
    have HF : Hid (namedB p = false) := Lib.hid (by simp [namedB, h6])
    go_enter Try.func16, Try.ntmps16
    go_wp2_with (go_at_call 42; refine (increasing_any _ _ _ _ HS.out (by omega)).mono ?_; rintro e w1 ⟨rfl, hb1⟩; have hc1 := bcell hb1; have hz1 : w.heap.size < w1.heap.size := (by have := hb1.size; simp at this; omega))
    go_ret
    exact ⟨ret_bool HF.out.symm, bon hal hb1⟩
  | true =>
    have HF : Hid (namedB p = namesB p.names) := Lib.hid (by have := H3.out; simp [namedB, h6, this]; omega)
    have hmm := @run_makeMap Try.prog
    go_enter Try.func16, Try.ntmps16
    go_wp2_with (go_at_call 42; refine (increasing_any _ _ _ _ HS.out (by omega)).mono ?_; rintro e w1 ⟨rfl, hb1⟩; have hc1 := bcell hb1; have hz1 : w.heap.size < w1.heap.size := (by have := hb1.size; simp at this; omega))
    have hmade := MapIs.made (kv := Value.string) w1
    have hb2 := bal (bon hal hb1) (.map #[] 0)
    go_loopw [34] (NamedRel p.names w w1.heap.size) (fun i _ => p.names.length - (intOf i).toNat)
    case atStart => exact ⟨0, by omega, rfl, fun j hj => absurd hj (Nat.not_lt_zero _), hb2, (by have := hb1.size; simp at this; omega), by rw [metTo_zero]; exact hmade⟩
    case round =>
      clear hmm hb2 hmade
      obtain ⟨k, hk, rfl, hok, hb, hbl, hm⟩ := hrel
      have HOK := Lib.hid hok
      clear hok
      by_cases hlt : k < p.names.length
      · obtain ⟨b, off, rfl, hbl1, hc⟩ := hcell (by omega)
        have hk1 : wr.cell? ⟨b, off + k, none⟩ = some (.string (ixS p.names k)) := (bcell hb _ _ hbl1).trans (hc k hlt)
        have hsz1 := hsz k
        clear hc hcell hsz hc1
        have hlk := hm.lookup kvStr Try.underlying72 Try.underlying9 (Try.zeroValue3 wr) (ixS p.names k)
        have hlen : ∀ x, ixS p.names k = x → nameAt p.names k = (decide (x.size ≤ 200) && !nlB x && (emptyS x || allR k (fun j => decide (ixS p.names j ≠ x)))) := fun x e => by subst e; rfl
        have hput : nameAt p.names k = true → ∀ x, ixS p.names k = x → emptyS x = false → metTo p.names k x = none ∧ metTo p.names (k + 1) = upd (metTo p.names k) x (some (.int .i64 1)) := fun h x e he => by subst e; exact named_loop_ok _ _ h he
        have hemp : ∀ x, ixS p.names k = x → emptyS x = true → metTo p.names (k + 1) = metTo p.names k := fun x e he => by subst e; exact named_loop_empty _ _ he
        have hbad : nameAt p.names k = false → Hid (namedB p = false) := fun h => Lib.hid (by rw [HF.out]; exact allR_false k hlt h)
        generalize ixS p.names k = s at hk1 hsz1 hlk hlen hput hemp
        replace hlen := hlen s rfl
        replace hput := fun h => hput h s rfl
        replace hemp := hemp s rfl
        by_cases g1 : 200 < s.size
        · have HB := hbad (by rw [hlen]; simp; omega)
          clear hlen hput hemp hbad hlk
          go_wp2
          go_ret
          exact ⟨ret_bool HB.out.symm, hb⟩
        cases g2 : nlB s with
        | true =>
          have HB := hbad (by rw [hlen, g2]; simp)
          clear hlen hput hemp hbad hlk
          go_wp2_with (first
            | (go_at_call 43; refine (containsNl_any _ _).mono ?_; rintro e w2 ⟨rfl, rfl⟩))
          go_ret
          exact ⟨ret_bool HB.out.symm, hb⟩
        | false =>
          cases g3 : emptyS s with
          | true =>
            have hbs : metTo p.names k s = none := by simp [metTo, g3]
            rw [hbs] at hlk
            have HK : Hid (nameAt p.names k = true) := Lib.hid (by rw [hlen, g2, g3]; simp; omega)
            have HM : Hid (MapIs Value.string wr w1.heap.size (metTo p.names (k + 1))) := Lib.hid (by rw [hemp g3]; exact hm)
            have g4 : s.toList.isEmpty = true := g3
            have g5 : s.toList = [] := by simpa using g4
            clear hlen hput hemp hbad hbs
            simp only [Option.getD_none] at hlk
            go_wp2_with (first
              | (go_at_call 43; refine (containsNl_any _ _).mono ?_; rintro e w2 ⟨rfl, rfl⟩))
            first
              | (go_roundw
                 case rel => (exact ⟨k + 1, by omega, by go_num, lt_succ_all HOK.out HK.out, hb, hbl, HM.out⟩)
                 case measure => (simp [intOf]; omega))
              | (refine ⟨?_, ?_⟩
                 · (exact ⟨k + 1, by omega, by go_num, lt_succ_all HOK.out HK.out, hb, hbl, HM.out⟩)
                 · (simp [intOf]; omega))
          | false =>
            have g4 : s.toList.isEmpty = false := g3
            have g5 : ¬ s.toList = [] := by simpa using g4
            cases g6 : nameAt p.names k with
            | false =>
              have HB := hbad g6
              have hany : anyR k (fun j => decide (ixS p.names j = s)) = true := by
                rw [hlen, g2, g3] at g6
                simp only [Bool.not_false, Bool.and_true, Bool.false_or, Bool.and_eq_false_iff, decide_eq_false_iff_not] at g6
                rcases g6 with g6 | g6
                · exact absurd (by omega) g6
                · simp [allR] at g6
                  obtain ⟨j, hj, e⟩ := g6
                  exact anyR_true j hj (by simpa using e)
              have hbs : metTo p.names k s = some (.int .i64 1) := by rw [metTo, if_pos ⟨g3, hany⟩]
              rw [hbs] at hlk
              clear hlen hput hemp hbad hbs
              simp only [Option.getD_some] at hlk
              go_wp2_with (first
                | (go_at_call 43; refine (containsNl_any _ _).mono ?_; rintro e w2 ⟨rfl, rfl⟩))
              go_ret
              exact ⟨ret_bool HB.out.symm, hb⟩
            | true =>
              obtain ⟨hbs, hup⟩ := hput g6 g3
              rw [hbs] at hlk
              have HK := Lib.hid g6
              have HUP := Lib.hid hup
              have HMM := Lib.hid hm
              clear hlen hput hemp hbad hbs hup g6 hm
              simp only [Option.getD_none] at hlk
              go_wp2_with (first
                | (go_at_call 43; refine (containsNl_any _ _).mono ?_; rintro e w2 ⟨rfl, rfl⟩)
                | (at_mapUpdate; refine wpList_mput _ _ s (.int .i64 1) kvStr 72 9 3 Try.underlying72 Try.underlying9 rfl _ _ _ rfl rfl rfl rfl HMM.out ?_; intro w2 hm2 hg2 hs2))
              have HM : Hid (MapIs Value.string w2 w1.heap.size (metTo p.names (k + 1))) := Lib.hid (by rw [HUP.out]; exact hm2)
              have hb2 := hb.grown hg2 hb.size (fun j e => by cases e; exact hbl)
              first
                | (go_roundw
                   case rel => (exact ⟨k + 1, by omega, by go_num, lt_succ_all HOK.out HK.out, hb2, hbl, HM.out⟩)
                   case measure => (simp [intOf]; omega))
                | (refine ⟨?_, ?_⟩
                   · (exact ⟨k + 1, by omega, by go_num, lt_succ_all HOK.out HK.out, hb2, hbl, HM.out⟩)
                   · (simp [intOf]; omega))
      · have HL : Hid (k = p.names.length) := Lib.hid (by omega)
        go_wp2
        go_ret
        exact ⟨ret_bool (by rw [HF.out]; exact (allR_true (by rw [← HL.out]; exact HOK.out)).symm), hb⟩

end Go.Proofs.Ytdoecchigfdilaa

/- A region that draws its order and holds calls that make memory: one walk serves every order, in the class of the worlds that keep what lay before. -/
namespace Go.Proofs.Ytdoecchigfdilaa
open Go.RowKit

/-- A world in which what lay in w lies unturned. -/
structure Ext (w : World) where
  world : World
  below : Below w.heap.size w world

instance instExt (w : World) : Nonempty (Ext w) := ⟨⟨w, Below.refl _ _⟩⟩

theorem Ext.cell {w : World} (e : Ext w) (b o : Nat) (h : b < w.heap.size) : e.world.cell? ⟨b, o, none⟩ = w.cell? ⟨b, o, none⟩ := bcell e.below b o h

theorem wp_region_ext {P : Program} {id : Nat} {Q : Exit → Act → World → Prop} {a : Act} {w : World} {l : List Oper} (hm : P.follows .mixedOrders = true) (hB : Region.lexB .any l.toArray = true)
    (h : wpQuiet P l.toArray (fun w' => ∃ e : Ext w, w' = e.world) (fun a' => ∀ w', (∃ e : Ext w, w' = e.world) → Q .normal a' w') l a) : (Code.region id l.toArray true).wp P Q a w :=
  wp_region_quiet (C := fun w' => ∃ e : Ext w, w' = e.world) hm hB ⟨⟨_, (Below.refl _ w).drew⟩, rfl⟩ (by simpa using h)

theorem Calls.ext_of {P : Program} {f : FuncId} {args : Array Value} {w : World} {e : Ext w} {v : Value}
    (h : Calls P f args e.world fun x w' => x = .returned v ∧ Below e.world.heap.size e.world w') : Calls P f args e.world fun x w'' => x = .returned v ∧ ∃ e2 : Ext w, w'' = e2.world :=
  h.mono fun _ _ ⟨he, hb⟩ => ⟨he, ⟨_, bon e.below hb⟩, rfl⟩

theorem Calls.ext_of_same {P : Program} {f : FuncId} {args : Array Value} {w : World} {e : Ext w} {v : Value}
    (h : Calls P f args e.world fun x w' => x = .returned v ∧ e.world = w') : Calls P f args e.world fun x w'' => x = .returned v ∧ ∃ e2 : Ext w, w'' = e2.world :=
  h.mono fun _ _ ⟨he, hb⟩ => ⟨he, e, hb.symm⟩

end Go.Proofs.Ytdoecchigfdilaa

/- The contract of gprog.Valid. -/
namespace Go.Proofs.Ytdoecchigfdilaa
open Go.RowKit

/-- The first error of the rules from place k on. -/
def rulesFrom (l : List GR) (n : Int) : Nat → Nat → Int
  | _, 0 => 0
  | k, m + 1 => if ruleE (ixR l k) n ≠ 0 then ruleE (ixR l k) n else rulesFrom l n (k + 1) m
def rulesE (l : List GR) (n : Int) : Int := rulesFrom l n 0 l.length

def minAt (l : List GM) (n : Int) (i : Nat) : Bool :=
  orderedB (ixM l i).lits n && weightsB (ixM l i).w (ixM l i).lits.length && decide (-2147483647 ≤ (ixM l i).level ∧ (ixM l i).level ≤ 2147483647) && (i == 0 || decide ((ixM l i).level < (ixM l (i - 1)).level))
def minsB (l : List GM) (n : Int) : Bool := allR l.length (minAt l n)

def validE (p : GP) : Int :=
  if namedB p = false then 170 else if 40000 < p.rules.length then 171 else if rulesE p.rules p.n ≠ 0 then rulesE p.rules p.n else if 8 < p.min.length then 175 else if minsB p.min p.n = false then 175 else 0

def ValidPost (p : GP) (w : World) (e : Ending) (w' : World) : Prop := e = .returned (.int .i64 (validE p)) ∧ Below w.heap.size w w'

theorem rulesFrom_split (l : List GR) (n : Int) : ∀ (k : Nat), k ≤ l.length → (∀ j, j < k → ruleE (ixR l j) n = 0) → rulesE l n = rulesFrom l n k (l.length - k)
  | 0, _, _ => rfl
  | k + 1, hk, h => by
    rw [rulesFrom_split l n k (by omega) (fun j hj => h j (by omega))]
    have e : l.length - k = (l.length - (k + 1)) + 1 := by omega
    rw [e, rulesFrom, if_neg (by simpa using h k (by omega))]

def VRel1 (l : List GR) (n : Int) (w : World) (i : Value) (wr : World) : Prop :=
  ∃ k : Nat, k ≤ l.length ∧ i = .int .i64 k ∧ (∀ j, j < k → ruleE (ixR l j) n = 0) ∧ Below w.heap.size w wr

def VRel2 (l : List GM) (n : Int) (w : World) (i : Value) (wr : World) : Prop :=
  ∃ k : Nat, k ≤ l.length ∧ i = .int .i64 k ∧ (∀ j, j < k → minAt l n j = true) ∧ Below w.heap.size w wr

set_option maxHeartbeats 1000000 in
set_option maxRecDepth 100000 in
theorem valid_any (v : Value) (p : GP) (w : World) (h : ProgIs w v p) :
    Calls Try.prog 6 #[v] w (ValidPost p w) := by
  have h0 := h
  obtain ⟨vn, vs, vr, vm, rfl, hn, hnames, hshown, hrules, hmin⟩ := h
  have hal := bal (Below.refl w.heap.size w) (.cells #[.int .i64 p.n, vn, vs, vr, vm] 27)
  have HP := Lib.hid (h0.below hal)
  clear h0 hnames hshown
  obtain ⟨a1, c1, rfl, -, hl1, -, hcell⟩ := hrules.form
  obtain ⟨a2, c2, rfl, -, hl2, -, hmcell⟩ := hmin.form
  clear hrules hmin
  cases h1 : namedB p with
  | false =>
    have HF : Hid (validE p = 170) := Lib.hid (by simp [validE, h1])
    go_enter Try.func6, Try.ntmps6
    go_wp2_with (go_at_call 16; refine (named_any _ p _ HP.out).mono ?_; rintro e w1 ⟨rfl, hb1⟩; have hc1 := bcell hb1; have hz1 : w.heap.size < w1.heap.size := (by have := hb1.size; simp at this; omega))
    go_ret
    exact ⟨ret_int HF.out.symm, bon hal hb1⟩
  | true =>
  by_cases h2 : 40000 < p.rules.length
  · have HF : Hid (validE p = 171) := Lib.hid (by simp [validE, h1, h2])
    go_enter Try.func6, Try.ntmps6
    go_wp2_with (go_at_call 16; refine (named_any _ p _ HP.out).mono ?_; rintro e w1 ⟨rfl, hb1⟩; have hc1 := bcell hb1; have hz1 : w.heap.size < w1.heap.size := (by have := hb1.size; simp at this; omega))
    go_ret
    exact ⟨ret_int HF.out.symm, bon hal hb1⟩
  have HF : Hid (validE p = if rulesE p.rules p.n ≠ 0 then rulesE p.rules p.n else if 8 < p.min.length then 175 else if minsB p.min p.n = false then 175 else 0) := Lib.hid (by simp [validE, h1, h2])
  have hn4 : 0 ≤ p.n ∧ p.n ≤ 4000 := by simp only [namedB, Bool.and_eq_true, decide_eq_true_eq] at h1; omega
  go_enter Try.func6, Try.ntmps6
  go_wp2_with (go_at_call 16; refine (named_any _ p _ HP.out).mono ?_; rintro e w1 ⟨rfl, hb1⟩; have hc1 := bcell hb1; have hz1 : w.heap.size < w1.heap.size := (by have := hb1.size; simp at this; omega))
  obtain ⟨W, hW⟩ : ∃ W, W = (w.alloc (.cells #[.int .i64 p.n, vn, vs, .slice a1 p.rules.length c1, .slice a2 p.min.length c2] 27)) := ⟨_, rfl⟩
  go_loopw [20] (VRel1 p.rules p.n W) (fun i _ => p.rules.length - (intOf i).toNat)
  case atStart => exact ⟨0, by omega, rfl, fun j hj => absurd hj (Nat.not_lt_zero _), by rw [hW]; exact hb1⟩
  case round =>
    obtain ⟨k, hk, rfl, hok, hb⟩ := hrel
    have HOK := Lib.hid hok
    clear hok
    have hsW : w.heap.size < W.heap.size := by rw [hW]; simp
    have hsr : w.heap.size < wr.heap.size := Nat.lt_of_lt_of_le hsW hb.size
    have q0 : wr.cell? ⟨w.heap.size, 0, none⟩ = some (.int .i64 p.n) := by rw [bcell hb _ _ hsW, hW]; go_simp
    have q3 : wr.cell? ⟨w.heap.size, 4, none⟩ = some (.slice a2 p.min.length c2) := by rw [bcell hb _ _ hsW, hW]; go_simp
    clear hc1
    rw [← hW] at hal
    have hbw := bon hal hb
    clear hW
    by_cases hlt : k < p.rules.length
    · obtain ⟨b, off, rfl, hbl, hc⟩ := hcell (by omega)
      obtain ⟨vh, vb, vw, hcc, hsl⟩ := hc k hlt
      obtain ⟨r0, r1, r2, r3, r4, r5⟩ := hcc.below hbw hbl
      have HS := Lib.hid (hsl.below hbw)
      obtain ⟨a3, c3, rfl, -, hl3, -, -⟩ := hsl.head.form
      obtain ⟨a4, c4, rfl, -, hl4, -, -⟩ := hsl.body.form
      obtain ⟨a5, c5, rfl, -, hl5, -, -⟩ := hsl.wts.form
      have hbx : ∀ r, Below wr.heap.size wr (wr.alloc r) := fun r => bal (Below.refl _ _) r
      have HR : Hid (∀ w', Below wr.heap.size wr w' → RuleIs w' (.agg #[.bool (ixR p.rules k).choice, .slice a3 (ixR p.rules k).head.length c3, .bool (ixR p.rules k).sum, .int .i64 (ixR p.rules k).bound, .slice a4 (ixR p.rules k).body.length c4, .slice a5 (ixR p.rules k).w.length c5]) (ixR p.rules k)) := Lib.hid (fun w' hw => ⟨_, _, _, rfl, HS.out.below hw⟩)
      clear hc hcell hcc hsl
      by_cases hz : ruleE (ixR p.rules k) p.n = 0
      · have hz1 : (ruleE (ixR p.rules k) p.n == 0) = true := by simp [hz]
        have hz2 : (ruleE (ixR p.rules k) p.n != 0) = false := by simp [hz]
        have HZ := Lib.hid hz
        clear hz
        go_wp2_with (go_at_call 17; refine (rule_any _ _ _ _ (HR.out _ (hbx _))).mono ?_; rintro e w2 ⟨rfl, hb2⟩)
        first
          | (go_roundw
             case rel => (exact ⟨k + 1, by omega, by go_num, lt_succ_all HOK.out HZ.out, bon (bal hb _) hb2⟩)
             case measure => (simp [intOf]; omega))
          | (refine ⟨?_, ?_⟩
             · (exact ⟨k + 1, by omega, by go_num, lt_succ_all HOK.out HZ.out, bon (bal hb _) hb2⟩)
             · (simp [intOf]; omega))
      · have hz1 : (ruleE (ixR p.rules k) p.n == 0) = false := by simp [hz]
        have hz2 : (ruleE (ixR p.rules k) p.n != 0) = true := by simp [hz]
        have HZ := Lib.hid hz
        clear hz
        go_wp2_with (go_at_call 17; refine (rule_any _ _ _ _ (HR.out _ (hbx _))).mono ?_; rintro e w2 ⟨rfl, hb2⟩)
        go_ret
        refine ⟨ret_int ?_, bon (bal hbw _) hb2⟩
        have e1 : rulesE p.rules p.n = ruleE (ixR p.rules k) p.n := by
          rw [rulesFrom_split p.rules p.n k hk HOK.out, show p.rules.length - k = (p.rules.length - k - 1) + 1 by omega, rulesFrom, if_pos HZ.out]
        rw [HF.out, e1, if_pos HZ.out]
    · have e1 : rulesE p.rules p.n = 0 := by
        rw [rulesFrom_split p.rules p.n k hk HOK.out, show p.rules.length - k = 0 by omega]; rfl
      rw [e1] at HF
      by_cases h3 : 8 < p.min.length
      · go_wp2
        go_ret
        exact ⟨ret_int (by rw [HF.out]; simp [h3]), hbw⟩
      go_wp2
      clear HOK hlt hk e1
      have HBW := Lib.hid hbw
      clear hbw hb hal
      obtain ⟨wo, hwo⟩ : ∃ wo : World, wo = wr := ⟨_, rfl⟩
      rw [← hwo] at q0 q3 hsr HBW ⊢
      clear hwo
      go_loopw [39] (VRel2 p.min p.n wo) (fun i _ => p.min.length - (intOf i).toNat)
      case atStart => exact ⟨0, by omega, rfl, fun j hj => absurd hj (Nat.not_lt_zero _), Below.refl _ _⟩
      case round =>
        obtain ⟨k, hk, rfl, hok, hb⟩ := hrel
        have HOK := Lib.hid hok
        clear hok
        have hbw := bon HBW.out hb
        replace q0 := (bcell hb _ _ hsr).trans q0
        replace q3 := (bcell hb _ _ hsr).trans q3
        have hsr2 := Nat.lt_of_lt_of_le hsr hb.size
        by_cases hlt : k < p.min.length
        · obtain ⟨b, off, rfl, hbl, hc⟩ := hmcell (by omega)
          obtain ⟨vl, vw, hcc, hsl⟩ := hc k hlt
          obtain ⟨vl', vw', hcc', hsl'⟩ := hc (k - 1) (by omega)
          obtain ⟨m0, m1, m2⟩ := hcc.below hbw hbl
          obtain ⟨m0', -, -⟩ := hcc'.below hbw hbl
          have HS := Lib.hid (hsl.below hbw)
          obtain ⟨a3, c3, rfl, -, hl3, -, -⟩ := hsl.lits.form
          obtain ⟨a4, c4, rfl, -, hl4, -, -⟩ := hsl.wts.form
          have hlv := hsl.level
          have hlv' := hsl'.level
          unfold InI at hlv hlv'
          have hbr := Nat.lt_of_lt_of_le hbl hbw.size
          obtain ⟨W2, hW2⟩ : ∃ W2, W2 = wr.alloc (.cells #[.int .i64 (ixM p.min k).level, .slice a3 (ixM p.min k).lits.length c3, .slice a4 (ixM p.min k).w.length c4] 51) := ⟨_, rfl⟩
          have hbx : Below wr.heap.size wr W2 := by rw [hW2]; exact bal (Below.refl _ _) _
          have hz2 : wr.heap.size < W2.heap.size := by rw [hW2]; simp
          have HL : Hid (∀ e : Ext W2, Ints e.world (.slice a3 (ixM p.min k).lits.length c3) (ixM p.min k).lits) := Lib.hid (fun e => HS.out.lits.below (bon hbx e.below))
          have HW2 : Hid (∀ e : Ext W2, Ints e.world (.slice a4 (ixM p.min k).w.length c4) (ixM p.min k).w) := Lib.hid (fun e => HS.out.wts.below (bon hbx e.below))
          have x0 : ∀ e : Ext W2, e.world.cell? ⟨w.heap.size, 0, none⟩ = some (.int .i64 p.n) := fun e => (bcell (bon hbx e.below) _ _ hsr2).trans q0
          have x1 : ∀ e : Ext W2, e.world.cell? ⟨w.heap.size, 4, none⟩ = some (.slice (some ⟨b, off, none⟩) p.min.length c2) := fun e => (bcell (bon hbx e.below) _ _ hsr2).trans q3
          have x2 : ∀ e : Ext W2, e.world.cell? ⟨wr.heap.size, 0, none⟩ = some (.int .i64 (ixM p.min k).level) := fun e => (bcell e.below _ _ hz2).trans (by rw [hW2]; go_simp)
          have x3 : ∀ e : Ext W2, e.world.cell? ⟨wr.heap.size, 1, none⟩ = some (.slice a3 (ixM p.min k).lits.length c3) := fun e => (bcell e.below _ _ hz2).trans (by rw [hW2]; go_simp)
          have x4 : ∀ e : Ext W2, e.world.cell? ⟨wr.heap.size, 2, none⟩ = some (.slice a4 (ixM p.min k).w.length c4) := fun e => (bcell e.below _ _ hz2).trans (by rw [hW2]; go_simp)
          have x5 : ∀ e : Ext W2, e.world.cell? ⟨b, off + (k - 1) * 3, none⟩ = some (.int .i64 (ixM p.min (k - 1)).level) := fun e => (bcell (bon hbx e.below) _ _ hbr).trans m0'
          clear hc hmcell hcell hcc hcc' hsl hsl' m0'
          have hW2' := hW2.symm
          clear hW2
          have hbad : minAt p.min p.n k = false → Hid (validE p = 175) := fun h => Lib.hid (by rw [HF.out, minsB, allR_false k hlt h]; simp)
          have hmk : minAt p.min p.n k = (orderedB (ixM p.min k).lits p.n && weightsB (ixM p.min k).w (ixM p.min k).lits.length && decide (-2147483647 ≤ (ixM p.min k).level ∧ (ixM p.min k).level ≤ 2147483647) && (k == 0 || decide ((ixM p.min k).level < (ixM p.min (k - 1)).level))) := rfl
          have HMK := Lib.hid hmk
          have HBAD := Lib.hid hbad
          clear hmk hbad
          have hbw2 := fun (w9 : World) (hb9 : Below W2.heap.size W2 w9) => bon hbw (bon hbx hb9)
          have HFIN := Lib.hid hbw2
          have HFIN2 : Hid (∀ w9 : World, Below W2.heap.size W2 w9 → Below wo.heap.size wo w9) := Lib.hid (fun w9 hb9 => bon hb (bon hbx hb9))
          clear hbw2
          cases g1 : orderedB (ixM p.min k).lits p.n with
          | false =>
            have HB := HBAD.out (by rw [HMK.out, g1]; rfl)
            go_wp2
            refine wp_region_ext (by kernel_rfl) (by kernel_rfl) ?_
            repeat (go_big_quiet_step ((first | (go_at_call 18; exact Calls.ext_of (ordered_any _ _ _ _ (HL.out _) (by omega))) | (go_at_call 19; exact Calls.ext_of_same (weights_any _ _ _ _ (HW2.out _))))))
            refine wpQuiet_nil ?_
            intro _ hw'
            obtain ⟨⟨w9, hb9⟩, rfl⟩ := hw'
            try dsimp only
            go_wp2
            go_ret
            exact ⟨ret_int HB.out.symm, HFIN.out _ hb9⟩
          | true =>
          cases g2 : weightsB (ixM p.min k).w (ixM p.min k).lits.length with
          | false =>
            have HB := HBAD.out (by rw [HMK.out, g1, g2]; rfl)
            go_wp2
            refine wp_region_ext (by kernel_rfl) (by kernel_rfl) ?_
            repeat (go_big_quiet_step ((first | (go_at_call 18; exact Calls.ext_of (ordered_any _ _ _ _ (HL.out _) (by omega))) | (go_at_call 19; exact Calls.ext_of_same (weights_any _ _ _ _ (HW2.out _))))))
            refine wpQuiet_nil ?_
            intro _ hw'
            obtain ⟨⟨w9, hb9⟩, rfl⟩ := hw'
            try dsimp only
            go_wp2
            go_ret
            exact ⟨ret_int HB.out.symm, HFIN.out _ hb9⟩
          | true =>
          by_cases g3 : (ixM p.min k).level < -2147483647
          · have HB := HBAD.out (by rw [HMK.out, g1, g2]; simp; omega)
            go_wp2
            refine wp_region_ext (by kernel_rfl) (by kernel_rfl) ?_
            repeat (go_big_quiet_step ((first | (go_at_call 18; exact Calls.ext_of (ordered_any _ _ _ _ (HL.out _) (by omega))) | (go_at_call 19; exact Calls.ext_of_same (weights_any _ _ _ _ (HW2.out _))))))
            refine wpQuiet_nil ?_
            intro _ hw'
            obtain ⟨⟨w9, hb9⟩, rfl⟩ := hw'
            try dsimp only
            go_wp2
            go_ret
            exact ⟨ret_int HB.out.symm, HFIN.out _ hb9⟩
          have g3' : decide ((ixM p.min k).level < -2147483647) = false := by simp; omega
          by_cases g4 : 2147483647 < (ixM p.min k).level
          · have HB := HBAD.out (by rw [HMK.out, g1, g2]; simp; omega)
            go_wp2
            refine wp_region_ext (by kernel_rfl) (by kernel_rfl) ?_
            repeat (go_big_quiet_step ((first | (go_at_call 18; exact Calls.ext_of (ordered_any _ _ _ _ (HL.out _) (by omega))) | (go_at_call 19; exact Calls.ext_of_same (weights_any _ _ _ _ (HW2.out _))))))
            refine wpQuiet_nil ?_
            intro _ hw'
            obtain ⟨⟨w9, hb9⟩, rfl⟩ := hw'
            try dsimp only
            go_wp2
            go_ret
            exact ⟨ret_int HB.out.symm, HFIN.out _ hb9⟩
          have g4' : decide (2147483647 < (ixM p.min k).level) = false := by simp; omega
          have g34 : decide (-2147483647 ≤ (ixM p.min k).level ∧ (ixM p.min k).level ≤ 2147483647) = true := by simp; omega
          by_cases hk0 : k = 0
          · have hkp : decide (0 < k) = false := by simp; omega
            have HZ : Hid (minAt p.min p.n k = true) := Lib.hid (by rw [HMK.out, g1, g2, g34, hk0]; rfl)
            clear hk0 g34
            go_wp2
            refine wp_region_ext (by kernel_rfl) (by kernel_rfl) ?_
            repeat (go_big_quiet_step ((first | (go_at_call 18; exact Calls.ext_of (ordered_any _ _ _ _ (HL.out _) (by omega))) | (go_at_call 19; exact Calls.ext_of_same (weights_any _ _ _ _ (HW2.out _))))))
            refine wpQuiet_nil ?_
            intro _ hw'
            obtain ⟨⟨w9, hb9⟩, rfl⟩ := hw'
            try dsimp only
            go_wp2
            first
              | (go_roundw
                 case rel => (exact ⟨k + 1, by omega, by go_num, lt_succ_all HOK.out HZ.out, HFIN2.out _ hb9⟩)
                 case measure => (simp [intOf]; omega))
              | (refine ⟨?_, ?_⟩
                 · (exact ⟨k + 1, by omega, by go_num, lt_succ_all HOK.out HZ.out, HFIN2.out _ hb9⟩)
                 · (simp [intOf]; omega))
          have hkp : decide (0 < k) = true := by simp; omega
          have hkq : (0 : Int) < (k : Int) := by omega
          have hkn : (0 : Int) ≤ (k : Int) - 1 := by omega
          have hkm : ((k : Int) - 1).toNat = k - 1 := by omega
          have hkb : (k == 0) = false := by simp [hk0]
          by_cases g5 : (ixM p.min (k - 1)).level ≤ (ixM p.min k).level
          · have HB := HBAD.out (by rw [HMK.out, g1, g2, g34, hkb]; simp; omega)
            clear g34 hkb
            go_wp2
            refine wp_region_ext (by kernel_rfl) (by kernel_rfl) ?_
            repeat (go_big_quiet_step ((first | (go_at_call 18; exact Calls.ext_of (ordered_any _ _ _ _ (HL.out _) (by omega))) | (go_at_call 19; exact Calls.ext_of_same (weights_any _ _ _ _ (HW2.out _))))))
            refine wpQuiet_nil ?_
            intro _ hw'
            obtain ⟨⟨w9, hb9⟩, rfl⟩ := hw'
            try dsimp only
            go_wp2
            go_ret
            exact ⟨ret_int HB.out.symm, HFIN.out _ hb9⟩
          · have g5' : decide ((ixM p.min (k - 1)).level ≤ (ixM p.min k).level) = false := by simp; omega
            have HZ : Hid (minAt p.min p.n k = true) := Lib.hid (by rw [HMK.out, g1, g2, g34, hkb]; simp; omega)
            clear g34 hkb
            go_wp2
            refine wp_region_ext (by kernel_rfl) (by kernel_rfl) ?_
            repeat (go_big_quiet_step ((first | (go_at_call 18; exact Calls.ext_of (ordered_any _ _ _ _ (HL.out _) (by omega))) | (go_at_call 19; exact Calls.ext_of_same (weights_any _ _ _ _ (HW2.out _))))))
            refine wpQuiet_nil ?_
            intro _ hw'
            obtain ⟨⟨w9, hb9⟩, rfl⟩ := hw'
            try dsimp only
            go_wp2
            first
              | (go_roundw
                 case rel => (exact ⟨k + 1, by omega, by go_num, lt_succ_all HOK.out HZ.out, HFIN2.out _ hb9⟩)
                 case measure => (simp [intOf]; omega))
              | (refine ⟨?_, ?_⟩
                 · (exact ⟨k + 1, by omega, by go_num, lt_succ_all HOK.out HZ.out, HFIN2.out _ hb9⟩)
                 · (simp [intOf]; omega))
        · have HL2 : Hid (k = p.min.length) := Lib.hid (by omega)
          have HE : Hid (validE p = 0) := Lib.hid (by rw [HF.out, minsB, allR_true (by rw [← HL2.out]; exact HOK.out)]; simp [h3])
          go_wp2
          go_ret
          exact ⟨ret_int HE.out.symm, hbw⟩

end Go.Proofs.Ytdoecchigfdilaa

/- Slices that a call has made itself; slices.Clone. -/

namespace Go.Proofs.Ytdoecchigfdilaa
open Go.RowKit

/-- A slice of one-cell elements of the call's own, in blocks from base on. -/
def Own1 (base : Nat) (E bytes : Nat) (w : World) (v : Value) (n : Nat) (f : Nat → Value) : Prop :=
  w.ownsRow base E 1 v n ((List.range n).map f) ∧ n * bytes ≤ 140737488351232

theorem Own1.sl {base E bytes : Nat} {w : World} {v : Value} {n : Nat} {f : Nat → Value} (h : Own1 base E bytes w v n f) : Sl w v bytes n f := by
  obtain ⟨⟨h1, h2⟩, h3⟩ := h
  rcases h2 with ⟨rfl, rfl⟩ | ⟨g, cap, cur, rfl, hb, hg, hn, hm, hs, hx⟩
  · exact ⟨none, 0, rfl, Nat.le_refl _, by unfold maxLen; omega, h3, fun h0 => absurd h0 (Nat.lt_irrefl 0)⟩
  · refine ⟨_, cap, rfl, hn, hm, h3, fun _ => ⟨g, 0, rfl, (Array.getElem?_eq_some_iff.1 hg).1, fun i hi => ?_⟩⟩
    have e : cur[i]? = some (f i) := by
      have h4 : (cur.toList.take (n * 1))[i]? = some (f i) := by rw [hx]; simp [hi]
      rw [List.getElem?_take_of_lt (by omega)] at h4
      simpa using h4
    simp [World.cell?, hg, e]

def OwnI (base : Nat) (w : World) (v : Value) (l : List Int) : Prop := Own1 base 3 8 w v l.length (fun i => .int .i64 (ix l i)) ∧ Fits l

theorem OwnI.ints {base : Nat} {w : World} {v : Value} {l : List Int} (h : OwnI base w v l) : Ints w v l := ⟨h.1.sl, h.2⟩

def OwnS (base : Nat) (w : World) (v : Value) (l : List ByteArray) : Prop := Own1 base 9 16 w v l.length (fun i => .string (ixS l i)) ∧ ∀ i, (ixS l i).size ≤ 140737488351232

theorem OwnS.strs {base : Nat} {w : World} {v : Value} {l : List ByteArray} (h : OwnS base w v l) : Strs w v l := ⟨h.1.sl, h.2⟩

/-- A slice of small ints. -/
def Bytes8 (w : World) (v : Value) (l : List Int) : Prop := Sl w v 1 l.length (fun i => .int .i8 (ix l i)) ∧ ∀ i, -128 ≤ ix l i ∧ ix l i ≤ 127
def Own8 (base : Nat) (w : World) (v : Value) (l : List Int) : Prop := Own1 base 57 1 w v l.length (fun i => .int .i8 (ix l i)) ∧ ∀ i, -128 ≤ ix l i ∧ ix l i ≤ 127
theorem Own8.bytes {base : Nat} {w : World} {v : Value} {l : List Int} (h : Own8 base w v l) : Bytes8 w v l := ⟨h.1.sl, h.2⟩
theorem Bytes8.below {w w' : World} {v : Value} {l : List Int} (h : Bytes8 w v l) (hb : Below w.heap.size w w') : Bytes8 w' v l := ⟨h.1.below hb, h.2⟩

theorem infoI : (Try.prog.info? 3).map (fun i => (i.zero, i.size, i.bytes)) = some (some (.int .i64 0), 1, 8) := by kernel_rfl
theorem infoS : (Try.prog.info? 9).map (fun i => (i.zero, i.size, i.bytes)) = some (some (.string ⟨#[]⟩), 1, 16) := by kernel_rfl
theorem info8 : (Try.prog.info? 57).map (fun i => (i.zero, i.size, i.bytes)) = some (some (.int .i8 0), 1, 1) := by kernel_rfl



set_option maxHeartbeats 1000000 in
set_option maxRecDepth 100000 in
theorem clone_int (v : Value) (n : Nat) (f : Nat → Value) (w : World) (h : Sl w v 8 n f) (hone : ∀ i, (f i).oneCell' = true) :
    Calls Try.prog 46 #[v] w fun e w' => ∃ v', e = .returned v' ∧ Own1 w.heap.size 3 8 w' v' n f ∧ Below w.heap.size w w' := by
  obtain ⟨a, cap, rfl, h1, hm, h2, h3⟩ := h
  have q : ∀ (w : World) (a : Option Addr) (n c n' c' : Nat), (binOp .eql 23 (.slice a n c) (.slice none n' c')).run Try.prog w = .ok (.bool a.isNone) w := fun w a n c n' c' => Lib.run_eql_slice_nil w _ _ a n c n' c' Try.underlying23
  cases a with
  | none =>
    have hn : n = 0 := by
      rcases Nat.eq_zero_or_pos n with h | h
      · exact h
      · obtain ⟨b, off, e, _⟩ := h3 h
        cases e
    subst hn
    clear h3
    go_enter Try.func46, Try.ntmps46
    go_wp2
    go_ret
    exact ⟨.slice none 0 0, rfl, ⟨World.ownsRow_nil _ _ _ _, h2⟩, Below.refl _ _⟩
  | some ad =>
    obtain ⟨i0, hi, hz0, hz1, hz2⟩ := info_parts infoI
    have hcell : Hid (∀ j, j < n → w.cell? (ad.add j) = some (f j)) := Lib.hid (fun j hj => by
      obtain ⟨b, off, e, _, hc⟩ := h3 (by omega)
      cases e
      rw [Addr.add_lit]; exact hc j hj)
    have HONE := Lib.hid hone
    clear h3 hone
    go_enter Try.func46, Try.ntmps46
    go_wp2_with (at_builtin; refine wpList_append_own _ rfl _ _ 23 rfl w.heap.size 3 i0 (.int .i64 0) 1 8 Try.underlying23 hi hz0 hz1 hz2 rfl (by decide) _ _ _ rfl (World.ownsRow_made w #[] 0 (Nat.le_refl _) (Nat.zero_le _) rfl) ad n cap ((List.range n).map f) rfl ?qc1 ?qc2 ?qc3 ?qc4 ?qc5 ?qc6 ?_)
    case qc1 => simp
    case qc2 =>
      intro j u hj
      have hjn : j < n := by
        have := (List.getElem?_eq_some_iff.1 hj).1
        simpa using this
      refine Lib.cell?_alloc_some _ ?_
      rw [hcell.out j hjn]
      simpa [hjn] using hj
    case qc3 => intro u hu; obtain ⟨x, _, rfl⟩ := List.mem_map.1 hu; exact HONE.out x
    case qc4 => unfold maxLen at *; omega
    case qc5 => omega
    case qc6 => simp
    intro v' w1 hown hgrow hnil
    go_wp2
    go_ret
    refine ⟨v', rfl, ⟨by simpa using hown, h2⟩, ?_⟩
    exact (bal (Below.refl _ w) _).grown hgrow (by simp) (by intro k hk; simp [Value.ownBlock] at hk; omega)

theorem Own1.below {base E bytes : Nat} {w w' : World} {v : Value} {n : Nat} {f : Nat → Value} (h : Own1 base E bytes w v n f) (hb : Below w.heap.size w w') : Own1 base E bytes w' v n f :=
  ⟨h.1.kept (row := none) ⟨hb.os, hb.tape, hb.output, hb.size, fun k hk _ => hb.block k hk⟩ (by cases v.ownBlock <;> simp), h.2⟩
theorem OwnS.below {base : Nat} {w w' : World} {v : Value} {l : List ByteArray} (h : OwnS base w v l) (hb : Below w.heap.size w w') : OwnS base w' v l := ⟨h.1.below hb, h.2⟩
theorem OwnI.below {base : Nat} {w w' : World} {v : Value} {l : List Int} (h : OwnI base w v l) (hb : Below w.heap.size w w') : OwnI base w' v l := ⟨h.1.below hb, h.2⟩

theorem Own1.mono {base base' E bytes : Nat} {w : World} {v : Value} {n : Nat} {f : Nat → Value} (h : Own1 base E bytes w v n f) (hb : base' ≤ base) : Own1 base' E bytes w v n f := by
  obtain ⟨⟨h1, h2⟩, h3⟩ := h
  refine ⟨⟨h1, ?_⟩, h3⟩
  rcases h2 with h2 | ⟨g, cap, cur, e, hg, r⟩
  · exact .inl h2
  · exact .inr ⟨g, cap, cur, e, Nat.le_trans hb hg, r⟩
theorem OwnS.mono {base base' : Nat} {w : World} {v : Value} {l : List ByteArray} (h : OwnS base w v l) (hb : base' ≤ base) : OwnS base' w v l := ⟨h.1.mono hb, h.2⟩
theorem OwnI.mono {base base' : Nat} {w : World} {v : Value} {l : List Int} (h : OwnI base w v l) (hb : base' ≤ base) : OwnI base' w v l := ⟨h.1.mono hb, h.2⟩

theorem cloneI_any (v : Value) (l : List Int) (w : World) (h : Ints w v l) :
    Calls Try.prog 46 #[v] w fun e w' => ∃ v', e = .returned v' ∧ OwnI w.heap.size w' v' l ∧ Below w.heap.size w w' :=
  (clone_int v _ _ w h.1 (fun _ => rfl)).mono fun _ _ ⟨v', e, ho, hb⟩ => ⟨v', e, ⟨ho, h.2⟩, hb⟩

theorem Own1.form {base E bytes : Nat} {w : World} {v : Value} {n : Nat} {f : Nat → Value} (h : Own1 base E bytes w v n f) : ∃ a c, v = .slice a n c := by
  obtain ⟨a, c, e, _⟩ := h.sl
  exact ⟨a, c, e⟩

theorem cloneI_sl (v : Value) (l : List Int) (w : World) (h : Ints w v l) :
    Calls Try.prog 46 #[v] w fun e w' => ∃ a c, e = .returned (.slice a l.length c) ∧ OwnI w.heap.size w' (.slice a l.length c) l ∧ Below w.heap.size w w' :=
  (cloneI_any v l w h).mono fun _ _ ⟨v', e, ho, hb⟩ => by
    obtain ⟨a, c, rfl⟩ := ho.1.form
    exact ⟨a, c, e, ho, hb⟩

theorem Own1.apart {base E bytes : Nat} {w : World} {v : Value} {n : Nat} {f : Nat → Value} (h : Own1 base E bytes w v n f) {b : Nat} (hb : b < base) : Apart v b := by
  rintro b' o n' cap rfl h0 rfl
  rcases h.1.2 with ⟨e, _⟩ | ⟨g, cap', cur, e, hg, _⟩
  · cases e
  · cases e; omega

end Go.Proofs.Ytdoecchigfdilaa

/- slices.Clone of strings and of bytes. -/
namespace Go.Proofs.Ytdoecchigfdilaa
open Go.RowKit


set_option maxHeartbeats 1000000 in
set_option maxRecDepth 100000 in
theorem clone_str (v : Value) (n : Nat) (f : Nat → Value) (w : World) (h : Sl w v 16 n f) (hone : ∀ i, (f i).oneCell' = true) :
    Calls Try.prog 23 #[v] w fun e w' => ∃ v', e = .returned v' ∧ Own1 w.heap.size 9 16 w' v' n f ∧ Below w.heap.size w w' := by
  obtain ⟨a, cap, rfl, h1, hm, h2, h3⟩ := h
  have q : ∀ (w : World) (a : Option Addr) (n c n' c' : Nat), (binOp .eql 22 (.slice a n c) (.slice none n' c')).run Try.prog w = .ok (.bool a.isNone) w := fun w a n c n' c' => Lib.run_eql_slice_nil w _ _ a n c n' c' Try.underlying22
  cases a with
  | none =>
    have hn : n = 0 := by
      rcases Nat.eq_zero_or_pos n with h | h
      · exact h
      · obtain ⟨b, off, e, _⟩ := h3 h
        cases e
    subst hn
    clear h3
    go_enter Try.func23, Try.ntmps23
    go_wp2
    go_ret
    exact ⟨.slice none 0 0, rfl, ⟨World.ownsRow_nil _ _ _ _, h2⟩, Below.refl _ _⟩
  | some ad =>
    obtain ⟨i0, hi, hz0, hz1, hz2⟩ := info_parts infoS
    have hcell : Hid (∀ j, j < n → w.cell? (ad.add j) = some (f j)) := Lib.hid (fun j hj => by
      obtain ⟨b, off, e, _, hc⟩ := h3 (by omega)
      cases e
      rw [Addr.add_lit]; exact hc j hj)
    have HONE := Lib.hid hone
    clear h3 hone
    go_enter Try.func23, Try.ntmps23
    go_wp2_with (at_builtin; refine wpList_append_own _ rfl _ _ 22 rfl w.heap.size 9 i0 (.string ⟨#[]⟩) 1 16 Try.underlying22 hi hz0 hz1 hz2 rfl (by decide) _ _ _ rfl (World.ownsRow_made w #[] 0 (Nat.le_refl _) (Nat.zero_le _) rfl) ad n cap ((List.range n).map f) rfl ?qc1 ?qc2 ?qc3 ?qc4 ?qc5 ?qc6 ?_)
    case qc1 => simp
    case qc2 =>
      intro j u hj
      have hjn : j < n := by
        have := (List.getElem?_eq_some_iff.1 hj).1
        simpa using this
      refine Lib.cell?_alloc_some _ ?_
      rw [hcell.out j hjn]
      simpa [hjn] using hj
    case qc3 => intro u hu; obtain ⟨x, _, rfl⟩ := List.mem_map.1 hu; exact HONE.out x
    case qc4 => unfold maxLen at *; omega
    case qc5 => omega
    case qc6 => simp
    intro v' w1 hown hgrow hnil
    go_wp2
    go_ret
    refine ⟨v', rfl, ⟨by simpa using hown, h2⟩, ?_⟩
    exact (bal (Below.refl _ w) _).grown hgrow (by simp) (by intro k hk; simp [Value.ownBlock] at hk; omega)

set_option maxHeartbeats 1000000 in
set_option maxRecDepth 100000 in
theorem clone_8 (v : Value) (n : Nat) (f : Nat → Value) (w : World) (h : Sl w v 1 n f) (hone : ∀ i, (f i).oneCell' = true) :
    Calls Try.prog 25 #[v] w fun e w' => ∃ v', e = .returned v' ∧ Own1 w.heap.size 57 1 w' v' n f ∧ Below w.heap.size w w' := by
  obtain ⟨a, cap, rfl, h1, hm, h2, h3⟩ := h
  have q : ∀ (w : World) (a : Option Addr) (n c n' c' : Nat), (binOp .eql 28 (.slice a n c) (.slice none n' c')).run Try.prog w = .ok (.bool a.isNone) w := fun w a n c n' c' => Lib.run_eql_slice_nil w _ _ a n c n' c' Try.underlying28
  cases a with
  | none =>
    have hn : n = 0 := by
      rcases Nat.eq_zero_or_pos n with h | h
      · exact h
      · obtain ⟨b, off, e, _⟩ := h3 h
        cases e
    subst hn
    clear h3
    go_enter Try.func25, Try.ntmps25
    go_wp2
    go_ret
    exact ⟨.slice none 0 0, rfl, ⟨World.ownsRow_nil _ _ _ _, h2⟩, Below.refl _ _⟩
  | some ad =>
    obtain ⟨i0, hi, hz0, hz1, hz2⟩ := info_parts info8
    have hcell : Hid (∀ j, j < n → w.cell? (ad.add j) = some (f j)) := Lib.hid (fun j hj => by
      obtain ⟨b, off, e, _, hc⟩ := h3 (by omega)
      cases e
      rw [Addr.add_lit]; exact hc j hj)
    have HONE := Lib.hid hone
    clear h3 hone
    go_enter Try.func25, Try.ntmps25
    go_wp2_with (at_builtin; refine wpList_append_own _ rfl _ _ 28 rfl w.heap.size 57 i0 (.int .i8 0) 1 1 Try.underlying28 hi hz0 hz1 hz2 rfl (by decide) _ _ _ rfl (World.ownsRow_made w #[] 0 (Nat.le_refl _) (Nat.zero_le _) rfl) ad n cap ((List.range n).map f) rfl ?qc1 ?qc2 ?qc3 ?qc4 ?qc5 ?qc6 ?_)
    case qc1 => simp
    case qc2 =>
      intro j u hj
      have hjn : j < n := by
        have := (List.getElem?_eq_some_iff.1 hj).1
        simpa using this
      refine Lib.cell?_alloc_some _ ?_
      rw [hcell.out j hjn]
      simpa [hjn] using hj
    case qc3 => intro u hu; obtain ⟨x, _, rfl⟩ := List.mem_map.1 hu; exact HONE.out x
    case qc4 => unfold maxLen at *; omega
    case qc5 => omega
    case qc6 => simp
    intro v' w1 hown hgrow hnil
    go_wp2
    go_ret
    refine ⟨v', rfl, ⟨by simpa using hown, h2⟩, ?_⟩
    exact (bal (Below.refl _ w) _).grown hgrow (by simp) (by intro k hk; simp [Value.ownBlock] at hk; omega)

theorem cloneS_any (v : Value) (l : List ByteArray) (w : World) (h : Strs w v l) :
    Calls Try.prog 23 #[v] w fun e w' => ∃ v', e = .returned v' ∧ OwnS w.heap.size w' v' l ∧ Below w.heap.size w w' :=
  (clone_str v _ _ w h.1 (fun _ => rfl)).mono fun _ _ ⟨v', e, ho, hb⟩ => ⟨v', e, ⟨ho, h.2⟩, hb⟩

theorem clone8_any (v : Value) (l : List Int) (w : World) (h : Bytes8 w v l) :
    Calls Try.prog 25 #[v] w fun e w' => ∃ v', e = .returned v' ∧ Own8 w.heap.size w' v' l ∧ Below w.heap.size w w' :=
  (clone_8 v _ _ w h.1 (fun _ => rfl)).mono fun _ _ ⟨v', e, ho, hb⟩ => ⟨v', e, ⟨ho, h.2⟩, hb⟩

end Go.Proofs.Ytdoecchigfdilaa

/- source.own. -/
namespace Go.Proofs.Ytdoecchigfdilaa
open Go.RowKit
attribute [local go_sem ↓] Go.wp_at_zero Go.wp_at_succ

def OwnRel (r : GR) (w wx : World) : Prop :=
  Below w.heap.size w wx ∧ Blk wx (w.heap.size + 1) [.bool false, .slice none 0 0, .bool false, .int .i64 0, .slice none 0 0, .slice none 0 0] 41 ∧
    ∃ x1 y1 x2 y2 x3 y3, Blk wx w.heap.size [.bool r.choice, .slice x1 r.head.length y1, .bool r.sum, .int .i64 r.bound, .slice x2 r.body.length y2, .slice x3 r.w.length y3] 41 ∧
      OwnI (w.heap.size + 2) wx (.slice x1 r.head.length y1) r.head ∧ OwnI (w.heap.size + 2) wx (.slice x2 r.body.length y2) r.body ∧ OwnI (w.heap.size + 2) wx (.slice x3 r.w.length y3) r.w

theorem OwnI.setC {base : Nat} {w : World} {v : Value} {l : List Int} (h : OwnI base w v l) {b : Nat} (o : Nat) (u : Value) (hb : b < base) : OwnI base (w.setCell ⟨b, o, none⟩ u) v l := by
  obtain ⟨⟨⟨h1, h2⟩, h3⟩, h4⟩ := h
  refine ⟨⟨⟨h1, ?_⟩, h3⟩, h4⟩
  rcases h2 with h2 | ⟨g, cap, cur, e, hg, hh, r⟩
  · exact .inl h2
  · exact .inr ⟨g, cap, cur, e, hg, (Below.heap_setCell _ _ _ _ (show g ≠ b by omega)).trans hh, r⟩

set_option maxHeartbeats 4000000 in
set_option maxRecDepth 100000 in
theorem own_any (v : Value) (r : GR) (w : World) (h : RuleIs w v r) :
    Calls Try.prog 24 #[v] w fun e w' => ∃ vh vb vw, e = .returned (.agg #[.bool r.choice, vh, .bool r.sum, .int .i64 r.bound, vb, vw]) ∧ OwnI w.heap.size w' vh r.head ∧ OwnI w.heap.size w' vb r.body ∧ OwnI w.heap.size w' vw r.w ∧ InI r.bound ∧ Below w.heap.size w w' := by
  obtain ⟨vh, vb, vw, rfl, hh, hbd, hw, hbi⟩ := h
  obtain ⟨a1, c1, rfl, -, hl1, -, -⟩ := hh.form
  obtain ⟨a2, c2, rfl, -, hl2, -, -⟩ := hbd.form
  obtain ⟨a3, c3, rfl, -, hl3, -, -⟩ := hw.form
  obtain ⟨W, hW⟩ : ∃ W, W = (w.alloc (.cells #[.bool r.choice, .slice a1 r.head.length c1, .bool r.sum, .int .i64 r.bound, .slice a2 r.body.length c2, .slice a3 r.w.length c3] 41)).alloc (.cells #[.bool false, .slice none 0 0, .bool false, .int .i64 0, .slice none 0 0, .slice none 0 0] 41) := ⟨_, rfl⟩
  have hal : Below w.heap.size w W := by rw [hW]; exact bal (bal (Below.refl _ _) _) _
  have B1 : Blk W w.heap.size [.bool r.choice, .slice a1 r.head.length c1, .bool r.sum, .int .i64 r.bound, .slice a2 r.body.length c2, .slice a3 r.w.length c3] 41 := by rw [hW]; exact (Blk.new w _ _).alloc _
  have B2 : Blk W (w.heap.size + 1) [.bool false, .slice none 0 0, .bool false, .int .i64 0, .slice none 0 0, .slice none 0 0] 41 := by rw [hW]; exact Blk.new2 w _ _ _
  have HH := Lib.hid (hh.below hal)
  have HB := Lib.hid (hbd.below hal)
  have HW := Lib.hid (hw.below hal)
  have s1 := B1.cell 1
  have s2 := B1.cell 4
  have s3 := B1.cell 5
  have f1 := B1.free 1
  have f2 := B1.free 4
  have f3 := B1.free 5
  simp only [List.getElem?_cons_succ, List.getElem?_cons_zero] at s1 s2 s3
  have hz := B1.lt
  have HB1 := Lib.hid B1
  have HB2 := Lib.hid B2
  have hW' := hW.symm
  clear hW B1 B2 hh hbd hw
  go_enter Try.func24, Try.ntmps24
  go_upto_region 1 with fail
  clear hW'
  go_cut [] (fun wx => OwnRel r w wx)
  case first =>
    have b0 := Below.refl W.heap.size W
    go_region_with (first
      | (go_at_call 46; refine (cloneI_sl _ _ _ (HW.out.below hB2)).mono ?_; rintro e w3 ⟨x3, y3, rfl, ho, hb⟩; have hB3 : Below W.heap.size W w3 := bon hB2 hb; have hcc3 := bcell hB3; have hff3 := bfrozen hB3; have HO3 := Lib.hid ho; have HBB3 := Lib.hid hb; clear ho hb)
      | (go_at_call 46; refine (cloneI_sl _ _ _ (HB.out.below hB1)).mono ?_; rintro e w2 ⟨x2, y2, rfl, ho, hb⟩; have hB2 : Below W.heap.size W w2 := bon hB1 hb; have hcc2 := bcell hB2; have hff2 := bfrozen hB2; have HO2 := Lib.hid ho; have HBB2 := Lib.hid hb; clear ho hb)
      | (go_at_call 46; refine (cloneI_sl _ _ _ (HH.out.below b0.drew)).mono ?_; rintro e w1 ⟨x1, y1, rfl, ho, hb⟩; have hB1 : Below W.heap.size W w1 := bon b0.drew hb; have hcc1 := bcell hB1; have hff1 := bfrozen hB1; have HO1 := Lib.hid ho; have HBB1 := Lib.hid hb; clear ho hb))
    all_goals
      go_wp2_with fail
      go_meet
      case rel =>
        have hz1 : w.heap.size < w1.heap.size := Nat.lt_of_lt_of_le hz hB1.size
        have hz2 : w.heap.size < w2.heap.size := Nat.lt_of_lt_of_le hz hB2.size
        have hy : w.heap.size + 1 < W.heap.size := HB2.out.lt
        have hy1 : w.heap.size + 1 < w1.heap.size := Nat.lt_of_lt_of_le hy hB1.size
        have hy2 : w.heap.size + 1 < w2.heap.size := Nat.lt_of_lt_of_le hy hB2.size
        have hs1 := hB1.size
        have hs2 := hB2.size
        refine ⟨?_, ?_, x1, y1, x2, y2, x3, y3, ?_, ?_, ?_, ?_⟩
        · exact (((bon hal hB3).setCell (by simp) _).setCell (by simp) _).setCell (by simp) _
        · exact (((HB2.out.below hB3).setOther _ _ (by simp)).setOther _ _ (by simp)).setOther _ _ (by simp)
        · exact (((HB1.out.below hB3).set 1 _).set 4 _).set 5 _
        · exact (((((HO1.out.below HBB2.out).below HBB3.out).mono (by simp; omega)).setC _ _ (by omega)).setC _ _ (by omega)).setC _ _ (by omega)
        · exact ((((HO2.out.below HBB3.out).mono (by omega)).setC _ _ (by omega)).setC _ _ (by omega)).setC _ _ (by omega)
        · exact (((HO3.out.mono (by omega)).setC _ _ (by omega)).setC _ _ (by omega)).setC _ _ (by omega)
  case rest =>
    obtain ⟨g1, g2, x1, y1, x2, y2, x3, y3, g3, p1, p2, p3⟩ := hcut
    have k1 := g3.cell
    have k2 := g2.cell
    have k3 := g2.free
    have HG1 := Lib.hid g1
    have HP1 := Lib.hid p1
    have HP2 := Lib.hid p2
    have HP3 := Lib.hid p3
    clear g1 p1 p2 p3
    go_wp2
    have hf := (((((g2.set 0 (.bool r.choice)).set 1 (.slice x1 r.head.length y1)).set 2 (.bool r.sum)).set 3 (.int .i64 r.bound)).set 4 (.slice x2 r.body.length y2)).set 5 (.slice x3 r.w.length y3)
    have kf := hf.cell
    refine bodyPost_ret (v := .agg #[.bool r.choice, .slice x1 r.head.length y1, .bool r.sum, .int .i64 r.bound, .slice x2 r.body.length y2, .slice x3 r.w.length y3]) ?_ rfl ?_
    · simp [results, Try.results24, go_sem, kf]
    · refine ⟨_, _, _, rfl, ?_, ?_, ?_, hbi, ?_⟩
      · exact ((((((HP1.out.setC _ _ (by omega)).setC _ _ (by omega)).setC _ _ (by omega)).setC _ _ (by omega)).setC _ _ (by omega)).setC _ _ (by omega)).mono (by omega)
      · exact ((((((HP2.out.setC _ _ (by omega)).setC _ _ (by omega)).setC _ _ (by omega)).setC _ _ (by omega)).setC _ _ (by omega)).setC _ _ (by omega)).mono (by omega)
      · exact ((((((HP3.out.setC _ _ (by omega)).setC _ _ (by omega)).setC _ _ (by omega)).setC _ _ (by omega)).setC _ _ (by omega)).setC _ _ (by omega)).mono (by omega)
      · exact (((((HG1.out.setCell (by simp) _).setCell (by simp) _).setCell (by simp) _).setCell (by simp) _).setCell (by simp) _).setCell (by simp) _

end Go.Proofs.Ytdoecchigfdilaa
