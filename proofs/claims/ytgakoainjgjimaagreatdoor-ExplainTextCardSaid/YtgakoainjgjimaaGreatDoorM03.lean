/- My texts Ops, Queue, Lim, Cmp, Gp1, Gp2, Gp3, Str, Gp4, merged. -/
import Derived.Test.YtgakoainjgjimaaGreatDoorM00
import Derived.Test.YtgakoainjgjimaaGreatDoorProg
import Derived.WalkKit
import Derived.Lib.Hide
import Derived.Deep.QuietTactic
import Derived.BigQuiet
import Derived.WalkSpells
import Derived.Lib.SliceRun
import Derived.MapKept
import Derived.Maps.OwnSet
import Derived.Maps.OwnOps
import Derived.Test.YtgakoainjgjimaaGreatDoorM02
import Derived.Test.YtgakoainjgjimaaGreatDoorM01
import Derived.Deep.AppendLies
import Derived.Lib.Bytealg

namespace Go.Proofs.YtgakoainjgjimaaGreatDoor
open Go.RowKit
section
variable {P : Program} {ops : Array Oper} {w0 : World} {C' : World → Prop} {Φ : Nat → List Value → Value → Nat → Nat → World → Prop} {ism : Nat → Bool} {D : Nat → Nat → Bool} {E : Act → World → Prop} {a : Act} {o : Oper} {rest : List Oper} {i n : Nat} {F : List (Nat × (World → Prop))} {I : List (Nat × Nat)} {l : List Oper} {m : List Nat}
theorem walkP_head (hl : lateB l (dm m) n i = false) (hi : ism i = false) (hc : calm o = true) (hw : Region.wanted o (yielded ops a.tmps) = true)
    (h : ∀ K : Act → Prop, (∀ a, walkP P ops w0 (fun i w' => if lateB l (dm m) n i then C' w' else ∃ e : Ext w0, w' = e.world) Φ ism D E rest (i + 1) a F I → K a) → o.quiet P a (fun w' => ∃ e : Ext w0, w' = e.world) K) :
    walkP P ops w0 (fun i w' => if lateB l (dm m) n i then C' w' else ∃ e : Ext w0, w' = e.world) Φ ism D E (o :: rest) i a F I :=
  walkP_calm hi hc hw fun K hK => by
    have e : (fun w' => if lateB l (dm m) n i then C' w' else ∃ e : Ext w0, w' = e.world) = fun w' => ∃ e : Ext w0, w' = e.world := by
      funext w'; rw [if_neg (by rw [hl]; exact Bool.false_ne_true)]
    show o.quiet P a (fun w' => if lateB l (dm m) n i then C' w' else ∃ e : Ext w0, w' = e.world) K
    rw [e]
    exact h K hK
end
structure KeepB (w : World) (b : Nat) where
  world : World
  cell : ∀ o, world.cell? ⟨b, o, none⟩ = w.cell? ⟨b, o, none⟩
instance instKeepB (w : World) (b : Nat) : Nonempty (KeepB w b) := ⟨⟨w, fun _ => rfl⟩⟩
def QRow (base : Nat) (w : World) (v : Value) (l : List Int) : Prop :=
  Fits l ∧ ((v = .slice none 0 0 ∧ l = []) ∨
    ∃ g off cap cur, v = .slice (some ⟨g, off, none⟩) l.length cap ∧ base ≤ g ∧ w.heap[g]? = some (.cells cur 3 (0, 0)) ∧ l.length ≤ cap ∧ cap ≤ maxLen ∧ off + cap ≤ cur.size ∧ ∀ i, i < l.length → cur[off + i]? = some (.int .i64 (ix l i)))
theorem QRow.nil (base : Nat) (w : World) : QRow base w (.slice none 0 0) [] := ⟨fun i => by simp [ix], .inl ⟨rfl, rfl⟩⟩
theorem QRow.kept {base : Nat} {w w' : World} {v : Value} {l : List Int} (h : QRow base w v l) (hs : ∀ i, base ≤ i → i < w.heap.size → v.ownBlock = some i → w'.heap[i]? = w.heap[i]?) : QRow base w' v l := by
  refine ⟨h.1, ?_⟩
  rcases h.2 with h2 | ⟨g, off, cap, cur, rfl, hb, hg, r⟩
  · exact .inl h2
  · exact .inr ⟨g, off, cap, cur, rfl, hb, (hs g hb (Array.getElem?_eq_some_iff.1 hg).1 rfl).trans hg, r⟩
theorem QRow.tail {base : Nat} {w : World} {g off n cap : Nat} {x : Int} {l : List Int} (h : QRow base w (.slice (some ⟨g, off, none⟩) n cap) (x :: l)) : QRow base w (.slice (some ⟨g, off + 1, none⟩) (n - 1) (cap - 1)) l := by
  refine ⟨fun i => by have := h.1 (i + 1); simpa [ix] using this, ?_⟩
  rcases h.2 with ⟨e, _⟩ | ⟨g', off', cap', cur, e, hb, hg, h1, h2, h3, h4⟩
  · cases e
  · simp only [Value.slice.injEq, Option.some.injEq, Addr.mk.injEq, and_true] at e
    obtain ⟨⟨rfl, rfl⟩, rfl, rfl⟩ := e
    refine .inr ⟨g, off + 1, cap - 1, cur, by simp, hb, hg, by simp only [List.length_cons] at h1; omega, by omega, by simp only [List.length_cons] at h1; omega, fun i hi => ?_⟩
    have := h4 (i + 1) (by simp; omega)
    rw [show off + 1 + i = off + (i + 1) by omega, this]
    simp [ix]
def Same (lo hi : Nat) (S : List Nat) (w w' : World) : Prop := ∀ i, lo ≤ i → i < hi → i ∉ S → w'.heap[i]? = w.heap[i]?
structure Lim (n : Nat) (S : List Nat) (w w' : World) : Prop where
  os : w'.os = w.os
  tape : w'.tape = w.tape
  output : w'.output = w.output
  size : w.heap.size ≤ w'.heap.size
  block : ∀ i, i < n → i ∉ S → w'.heap[i]? = w.heap[i]?
theorem Lim.refl (n : Nat) (S : List Nat) (w : World) : Lim n S w w := ⟨rfl, rfl, rfl, Nat.le_refl _, fun _ _ _ => rfl⟩
theorem Lim.trans {n : Nat} {S : List Nat} {a b c : World} (h : Lim n S a b) (k : Lim n S b c) : Lim n S a c := ⟨k.os.trans h.os, k.tape.trans h.tape, k.output.trans h.output, Nat.le_trans h.size k.size, fun i hi hs => (k.block i hi hs).trans (h.block i hi hs)⟩
theorem Lim.mono {n m : Nat} {S S' : List Nat} {a b : World} (h : Lim n S a b) (hm : m ≤ n) (hs : ∀ i ∈ S, i < m → i ∈ S') : Lim m S' a b := ⟨h.os, h.tape, h.output, h.size, fun i hi hn => h.block i (by omega) (fun hh => hn (hs i hh hi))⟩
theorem Lim.of_below {n m : Nat} {S : List Nat} {a b : World} (h : Below n a b) (hm : m ≤ n) : Lim m S a b := ⟨h.os, h.tape, h.output, h.size, fun i hi _ => h.block i (by omega)⟩
theorem Lim.of_grown {n b : Nat} {S : List Nat} {w w' : World} (h : w.grownBy w' (some b)) (hb : b ∈ S ∨ n ≤ b) (hn : n ≤ w.heap.size) : Lim n S w w' :=
  ⟨h.os, h.tape, h.output, h.size, fun i hi hs => h.block i (by omega) (fun e => by cases e; rcases hb with hb | hb; exact hs hb; omega)⟩
theorem Lim.below {n : Nat} {S : List Nat} {w w' : World} (h : Lim n S w w') (hs : ∀ i ∈ S, n ≤ i) : Below n w w' := ⟨h.os, h.tape, h.output, h.size, fun i hi => h.block i hi (fun hh => by have := hs i hh; omega)⟩
theorem Lim.same {n lo hi : Nat} {S : List Nat} {w w' : World} (h : Lim n S w w') (hh : hi ≤ n) : Same lo hi S w w' := fun i _ h2 h3 => h.block i (by omega) h3
theorem Lim.setCell {n b o : Nat} {S : List Nat} {w : World} (v : Value) (hb : b ∈ S ∨ n ≤ b) : Lim n S w (w.setCell ⟨b, o, none⟩ v) :=
  ⟨rfl, rfl, rfl, by simp [World.setCell], fun i hi hs => Below.heap_setCell _ _ _ _ (by rintro rfl; rcases hb with hb | hb; exact hs hb; omega)⟩
def mapI (F : Int → Int) : Int → Option Value := fun x => if F x = 0 then none else some (.int .i64 (F x))
theorem mapI_getD (F : Int → Int) (x : Int) : (mapI F x).getD (.int .i64 0) = .int .i64 (F x) := by
  unfold mapI; split
  · rename_i h; rw [h]; rfl
  · rfl
def setI (F : Int → Int) (x v : Int) : Int → Int := fun y => if y = x then v else F y
theorem mapI_set {F : Int → Int} {x v : Int} (hv : v ≠ 0) : mapI (setI F x v) = upd (mapI F) x (some (.int .i64 v)) := by
  funext y; unfold mapI setI upd; split <;> simp_all
theorem Same.refl (lo hi : Nat) (S : List Nat) (w : World) : Same lo hi S w w := fun _ _ _ _ => rfl
def RulesAt (w : World) (v : Value) (l : List GR) (vh vb vw : Nat → Value) : Prop :=
  Rows w v 6 88 l.length (fun i => ruleCell (ixR l i) (vh i) (vb i) (vw i)) ∧ ∀ i, i < l.length → RuleSl w (ixR l i) (vh i) (vb i) (vw i)
theorem isNaN_any (x : Int) (w : World) : Calls Tryz.prog 162 #[.int .i64 x] w fun e w' => e = .returned (.bool false) ∧ w = w' := by
  go_enter Tryz.func162, Tryz.ntmps162
  go_wp2
  go_ret
  exact ⟨rfl, rfl⟩
def cmpI (x y : Int) : Int := if x < y then -1 else if y < x then 1 else 0
theorem compare_any (x y : Int) (w : World) : Calls Tryz.prog 115 #[.int .i64 x, .int .i64 y] w fun e w' => e = .returned (.int .i64 (cmpI x y)) ∧ w = w' := by
  go_enter Tryz.func115, Tryz.ntmps115
  go_wp2_with (go_at_call 162; refine (isNaN_any _ _).mono ?_; rintro e w' ⟨rfl, rfl⟩)
  all_goals
    go_ret
    simp [cmpI, *]
  all_goals omega
def orI (x y : Int) : Int := if x = 0 then y else x
theorem or_any (x y : Int) (b : Nat) (w : World) (h0 : w.cell? ⟨b, 0, none⟩ = some (.int .i64 x)) (h1 : w.cell? ⟨b, 1, none⟩ = some (.int .i64 y)) :
    Calls Tryz.prog 128 #[.slice (some ⟨b, 0, none⟩) 2 2] w fun e w' => e = .returned (.int .i64 (orI x y)) ∧ w = w' := by
  go_enter Tryz.func128, Tryz.ntmps128
  go_wp2
  go_loop [8] (fun i => ∃ k : Nat, k ≤ 2 ∧ i = .int .i64 k ∧ (1 ≤ k → x = 0) ∧ (2 ≤ k → y = 0)) (fun i => 2 - (intOf i).toNat)
  case atStart => exact ⟨0, by omega, rfl, by intro h; omega, by intro h; omega⟩
  case round =>
    obtain ⟨k, hk, rfl, g0, g1⟩ := hrel
    obtain rfl | rfl | rfl : k = 0 ∨ k = 1 ∨ k = 2 := by omega
    · by_cases hx : x = 0
      · subst hx
        go_wp2
        go_round
        case rel => exact ⟨1, by omega, rfl, by intro _; trivial, by intro h; omega⟩
        case measure => simp [intOf]
      · have hxb : (x == 0) = false := by simp [hx]
        have hxc : (x != 0) = true := by simp [hx]
        go_wp2
        go_ret
        exact ⟨ret_int (by simp [orI, hx]), rfl⟩
    · obtain rfl := g0 (by omega)
      clear g0 g1
      by_cases hy : y = 0
      · subst hy
        go_wp2
        go_round
        case rel => exact ⟨2, by omega, rfl, by intro _; trivial, by intro _; trivial⟩
        case measure => simp [intOf]
      · have hxb : (y == 0) = false := by simp [hy]
        have hxc : (y != 0) = true := by simp [hy]
        go_wp2
        go_ret
        exact ⟨ret_int (by simp [orI]), rfl⟩
    · obtain rfl := g0 (by omega)
      obtain rfl := g1 (by omega)
      go_wp2
      go_ret
      exact ⟨ret_int (by simp [orI]), rfl⟩
theorem atom_any (x : Int) (w : World) (h : -4611686018427387904 ≤ x) (h' : x ≤ 4611686018427387904) : Calls Tryz.prog 180 #[.int .i64 x] w fun e w' => e = .returned (.int .i64 x.natAbs) ∧ w = w' := by
  go_enter Tryz.func180, Tryz.ntmps180
  go_wp2
  all_goals
    go_ret
    refine ⟨?_, rfl⟩
    simp
    omega
def ordI (x y : Int) : Int := orI (cmpI x.natAbs y.natAbs) (cmpI y x)
theorem order_any (x y : Int) (w : World) (h : -4611686018427387904 ≤ x ∧ x ≤ 4611686018427387904) (g : -4611686018427387904 ≤ y ∧ y ≤ 4611686018427387904) :
    Calls Tryz.prog 149 #[.int .i64 x, .int .i64 y] w fun e w' => e = .returned (.int .i64 (ordI x y)) ∧ Below w.heap.size w w' := by
  go_enter Tryz.func149, Tryz.ntmps149
  go_wp2_with (first
   | (go_at_call 180; refine (atom_any _ _ (by omega) (by omega)).mono ?_; rintro e w' ⟨rfl, rfl⟩)
   | (go_at_call 115; refine (compare_any _ _ _).mono ?_; rintro e w' ⟨rfl, rfl⟩)
   | (go_at_call 128; refine (or_any (cmpI x.natAbs y.natAbs) (cmpI y x) _ _ (by go_simp) (by go_simp)).mono ?_; rintro e w' ⟨rfl, rfl⟩))
  go_ret
  exact ⟨rfl, (Below.refl _ _).alloc (Nat.le_refl _) _⟩
def litB (x n : Int) : Bool := decide (x ≠ 0 ∧ -n ≤ x ∧ x ≤ n)
theorem literal_any (x n : Int) (w : World) (h : 0 ≤ n ∧ n ≤ 4611686018427387904) :
    Calls Tryz.prog 148 #[.int .i64 x, .int .i64 n] w fun e w' => e = .returned (.bool (litB x n)) ∧ w = w' := by
  go_enter Tryz.func148, Tryz.ntmps148
  by_cases h0 : x = 0
  · go_wp2
    go_ret
    simp [litB, h0]
  · have hb : (x != 0) = true := by simp [h0]
    go_wp2
    all_goals
      go_ret
      refine ⟨?_, rfl⟩
      simp [litB, h0]
      try omega
def okAt (l : List Int) (n : Int) (i : Nat) : Bool := litB (ix l i) n && (i == 0 || decide (ordI (ix l (i - 1)) (ix l i) < 0))
def orderedB (l : List Int) (n : Int) : Bool := allR l.length (okAt l n)
theorem litB_bd {x n : Int} (h : litB x n = true) (hn : 0 ≤ n ∧ n ≤ 4611686018427387904) : -4611686018427387904 ≤ x ∧ x ≤ 4611686018427387904 := by
  simp [litB] at h; omega
theorem ordered_any (v : Value) (l : List Int) (n : Int) (w : World) (h : Ints w v l) (hn : 0 ≤ n ∧ n ≤ 4611686018427387904) :
    Calls Tryz.prog 107 #[v, .int .i64 n] w fun e w' => e = .returned (.bool (orderedB l n)) ∧ Below w.heap.size w w' := by
  obtain ⟨a, cap, rfl, hle, hB, -, hcell⟩ := h.form
  clear h
  go_enter Tryz.func107, Tryz.ntmps107
  go_wp2
  go_loopw [9] (fun i wr => ∃ k : Nat, k ≤ l.length ∧ i = .int .i64 k ∧ (∀ j, j < k → okAt l n j = true) ∧ Below w.heap.size w wr) (fun i _ => l.length - (intOf i).toNat)
  case atStart => exact ⟨0, by omega, rfl, by intro j hj; omega, Below.refl _ _⟩
  case round =>
    obtain ⟨k, hk, rfl, hok, hb⟩ := hrel
    have HOK := Lib.hid hok
    clear hok
    by_cases hlt : k < l.length
    · obtain ⟨b, off, rfl, hbl, hc⟩ := hcell (by omega)
      have hk1 : wr.cell? ⟨b, off + k, none⟩ = some (.int .i64 (ix l k)) := (bcell hb _ _ hbl).trans (hc k hlt)
      have hk2 : wr.cell? ⟨b, off + (k - 1), none⟩ = some (.int .i64 (ix l (k - 1))) := (bcell hb _ _ hbl).trans (hc (k - 1) (by omega))
      clear hc hcell
      cases hl : litB (ix l k) n with
      | false =>
        go_wp2_with (go_at_call 148; refine (literal_any _ _ _ (by omega)).mono ?_; rintro e w' ⟨rfl, rfl⟩)
        go_ret
        exact ⟨ret_bool (allR_false k hlt (by simp [okAt, hl])).symm, hb⟩
      | true =>
        have b1 := litB_bd hl hn
        by_cases hk0 : k = 0
        · have hfin : okAt l n k = true := by unfold okAt; rw [hl]; simp [hk0]
          have HF := Lib.hid hfin
          have hkp : ¬ (0 : Int) < (k : Int) := by omega
          clear hfin hk0
          go_wp2_with (go_at_call 148; refine (literal_any _ _ _ (by omega)).mono ?_; rintro e w' ⟨rfl, rfl⟩)
          go_roundw
          case rel => exact ⟨k + 1, by omega, by go_num, lt_succ_all HOK.out HF.out, hb⟩
          case measure => simp [intOf]; omega
        · have hkp : (0 : Int) < (k : Int) := by omega
          have hkn : (0 : Int) ≤ (k : Int) - 1 := by omega
          have hkm : ((k : Int) - 1).toNat = k - 1 := by omega
          have b2 := litB_bd (x := ix l (k - 1)) (n := n) (by have := HOK.out (k - 1) (by omega); simp [okAt] at this; exact this.1) hn
          have hfin : okAt l n k = decide (ordI (ix l (k - 1)) (ix l k) < 0) := by simp [okAt, hl, hk0]
          have HF := Lib.hid hfin
          clear hfin
          by_cases ho : ordI (ix l (k - 1)) (ix l k) < 0
          all_goals
            go_wp2_with (first
              | (go_at_call 148; refine (literal_any _ _ _ (by omega)).mono ?_; rintro e w' ⟨rfl, rfl⟩)
              | (go_at_call 149; refine (order_any _ _ _ (by omega) (by omega)).mono ?_; rintro e w1 ⟨rfl, hb1⟩))
          · go_roundw
            case rel => exact ⟨k + 1, by omega, by go_num, lt_succ_all HOK.out (by rw [HF.out]; simp [ho]), hb.trans (hb1.mono hb.size)⟩
            case measure => simp [intOf]; omega
          · go_ret
            exact ⟨ret_bool (allR_false k hlt (by rw [HF.out]; simp [ho])).symm, hb.trans (hb1.mono hb.size)⟩
    · have HL : Go.RowKit.Hid (k = l.length) := Lib.hid (by omega)
      go_wp2
      go_ret
      exact ⟨ret_bool (allR_true (by rw [← HL.out]; exact HOK.out)).symm, hb⟩
def IsMin (l : List Int) (m : Int) : Prop := (∀ i, i < l.length → m ≤ ix l i) ∧ ∃ i, i < l.length ∧ m = ix l i
def MinPost (l : List Int) (w : World) (e : Ending) (w' : World) : Prop := ∃ m : Int, e = .returned (.int .i64 m) ∧ IsMin l m ∧ w = w'
theorem min_any (v : Value) (l : List Int) (w : World) (h : Ints w v l) (h0 : 0 < l.length) :
    Calls Tryz.prog 179 #[v] w (MinPost l w) := by
  obtain ⟨a, cap, rfl, hle, hB, -, hcell⟩ := h.form
  clear h
  obtain ⟨b, off, rfl, hbl, hc⟩ := hcell h0
  have hk0 := hc 0 h0
  simp only [Nat.add_zero] at hk0
  clear hcell
  have HC := Lib.hid hc
  clear hc
  go_enter Tryz.func179, Tryz.ntmps179
  go_wp2
  go_loop [3, 4] (fun m i => ∃ (k : Nat) (x : Int), 1 ≤ k ∧ k ≤ l.length ∧ i = .int .i64 k ∧ m = .int .i64 x ∧ (∀ j, j < k → x ≤ ix l j) ∧ ∃ j, j < l.length ∧ x = ix l j) (fun _ i => l.length - (intOf i).toNat)
  case atStart =>
    refine ⟨1, ix l 0, by omega, by omega, rfl, rfl, ?_, 0, h0, rfl⟩
    exact fun j hj => by obtain rfl : j = 0 := by omega
                         exact Int.le_refl _
  -- j hj; obtain rfl : j = 0 := by omega; exact Int.le_refl _, 0, h0, rfl⟩⟩
  case round =>
    obtain ⟨k, x, hk0, hk, rfl, rfl, hmin, hex⟩ := hrel
    have HM := Lib.hid hmin
    have HE := Lib.hid hex
    clear hmin hex
    by_cases hlt : k < l.length
    · have hk1 := HC.out k hlt
      go_wp2
      all_goals
        go_round
        case rel =>
          refine ⟨k + 1, _, by omega, by omega, by go_num, rfl, lt_succ_all (fun j hj => ?_) ?_, ?_⟩
          · have := HM.out j hj; omega
          · omega
          · split
            · exact ⟨k, hlt, rfl⟩
            · exact HE.out
        case measure => simp [intOf]; omega
    · go_wp2
      go_ret
      exact ⟨x, rfl, ⟨fun i hi => HM.out i (by omega), HE.out⟩, rfl⟩
def increasingB (l : List Int) (n : Int) : Bool := orderedB l n && allR l.length (fun i => decide (0 < ix l i))
theorem increasing_any (v : Value) (l : List Int) (n : Int) (w : World) (h : Ints w v l) (hn : 0 ≤ n ∧ n ≤ 4611686018427387904) :
    Calls Tryz.prog 147 #[v, .int .i64 n] w fun e w' => e = .returned (.bool (increasingB l n)) ∧ Below w.heap.size w w' := by
  obtain ⟨a, cap, rfl, hle, hB, hi, -⟩ := h.form
  have H := Lib.hid hi
  clear h hi
  cases ho : orderedB l n with
  | false =>
    go_enter Tryz.func147, Tryz.ntmps147
    go_wp2_with (go_at_call 107; refine (ordered_any _ l n _ H.out hn).mono ?_; rintro e w1 ⟨rfl, hb1⟩)
    go_ret
    exact ⟨ret_bool (by simp [increasingB, ho]), hb1⟩
  | true =>
    by_cases h0 : l.length = 0
    · have hz : ((l.length : Int) == 0) = true := by simp [h0]
      have HZ := Lib.hid h0
      clear h0
      go_enter Tryz.func147, Tryz.ntmps147
      go_wp2_with (go_at_call 107; refine (ordered_any _ l n _ H.out hn).mono ?_; rintro e w1 ⟨rfl, hb1⟩)
      go_ret
      exact ⟨ret_bool (by simp [increasingB, ho, HZ.out, allR]), hb1⟩
    · have hz : ((l.length : Int) == 0) = false := by simp [h0]
      go_enter Tryz.func147, Tryz.ntmps147
      go_wp2_with (first
        | (go_at_call 107; refine (ordered_any _ l n _ H.out hn).mono ?_; rintro e w1 ⟨rfl, hb1⟩)
        | (go_at_call 179; refine (min_any _ l _ (H.out.below hb1) (by omega)).mono ?_; rintro e w2 ⟨m, rfl, hm, rfl⟩))
      go_ret
      refine ⟨ret_bool ?_, hb1⟩
      rw [increasingB, ho, Bool.true_and]
      by_cases hm0 : 0 < m
      · rw [allR_true (fun j hj => by have := hm.1 j hj; simp; omega)]
        simp [hm0]
      · obtain ⟨i, hi, e⟩ := hm.2
        rw [allR_false i hi (by simp; omega)]
        simp; omega
def sumTo (l : List Int) : Nat → Int
  | 0 => 0
  | k + 1 => sumTo l k + ix l k
def weightsB (l : List Int) (k : Int) : Bool := allR l.length (fun i => decide (1 ≤ ix l i ∧ ix l i ≤ 1048576 - sumTo l i)) && decide ((l.length : Int) = k)
theorem weights_any (v : Value) (l : List Int) (n : Int) (w : World) (h : Ints w v l) :
    Calls Tryz.prog 108 #[v, .int .i64 n] w fun e w' => e = .returned (.bool (weightsB l n)) ∧ w = w' := by
  obtain ⟨a, cap, rfl, hle, hB, -, hcell⟩ := h.form
  clear h
  go_enter Tryz.func108, Tryz.ntmps108
  go_wp2
  go_loop [5, 10] (fun s i => Hid (∃ (k : Nat), k ≤ l.length ∧ i = .int .i64 k ∧ s = .int .i64 (sumTo l k) ∧ (∀ j, j < k → 1 ≤ ix l j ∧ ix l j ≤ 1048576 - sumTo l j) ∧ 0 ≤ sumTo l k ∧ sumTo l k ≤ 1048576)) (fun _ i => l.length - (intOf i).toNat)
  case atStart => exact Lib.hid ⟨0, by omega, rfl, rfl, fun j hj => absurd hj (Nat.not_lt_zero _), by simp [sumTo], by simp [sumTo]⟩
  case round =>
    obtain ⟨k, hk, rfl, rfl, hall, hs0, hs1⟩ := hrel
    have HA := Lib.hid hall
    clear hall
    by_cases hlt : k < l.length
    · obtain ⟨b, off, rfl, hbl, hc⟩ := hcell (by omega)
      have hk1 := hc k hlt
      clear hc hcell
      by_cases h1 : 1 ≤ ix l k
      · by_cases h2 : ix l k ≤ 1048576 - sumTo l k
        · go_wp2
          first
            | (go_round
               case rel => (exact Lib.hid ⟨k + 1, by omega, by go_num, rfl, lt_succ_all HA.out ⟨h1, h2⟩, by rw [sumTo]; omega, by rw [sumTo]; omega⟩)
               case measure => (simp [intOf]; omega))
            | (refine ⟨?_, ?_⟩
               · (exact Lib.hid ⟨k + 1, by omega, by go_num, rfl, lt_succ_all HA.out ⟨h1, h2⟩, by rw [sumTo]; omega, by rw [sumTo]; omega⟩)
               · (simp [intOf]; omega))
        · go_wp2
          go_ret
          refine ⟨ret_bool ?_, rfl⟩
          rw [weightsB, allR_false k hlt (by simp [h1]; omega)]; rfl
      · go_wp2
        go_ret
        refine ⟨ret_bool ?_, rfl⟩
        rw [weightsB, allR_false k hlt (by simp; omega)]; rfl
    · have HL : Hid (k = l.length) := Lib.hid (by omega)
      go_wp2
      go_ret
      refine ⟨ret_bool ?_, rfl⟩
      rw [weightsB, allR_true (fun j hj => by simpa using HA.out j (by rw [HL.out]; exact hj))]
      rw [Bool.true_and, Bool.eq_iff_iff]; simp
def ruleE (r : GR) (n : Int) : Int :=
  if n < 0 ∨ 4000 < n then 2
  else if increasingB r.head n = false ∨ (r.choice = true ∧ r.head.length = 0) then 172
  else if orderedB r.body n = false then 173
  else if (r.sum = false ∧ (0 < r.w.length ∨ r.bound ≠ 0)) ∨ (r.sum = true ∧ (weightsB r.w r.body.length = false ∨ r.bound < 0 ∨ 1048576 < r.bound)) then 174
  else 0
set_option maxHeartbeats 1000000 in
theorem rule_any (v : Value) (r : GR) (n : Int) (w : World) (h : RuleIs w v r) :
    Calls Tryz.prog 106 #[v, .int .i64 n] w fun e w' => e = .returned (.int .i64 (ruleE r n)) ∧ Below w.heap.size w w' := by
  obtain ⟨vh, vb, vw, rfl, hh, hbd, hw, hbi⟩ := h
  have hal := bal (Below.refl w.heap.size w) (.cells #[.bool r.choice, vh, .bool r.sum, .int .i64 r.bound, vb, vw] 64)
  have HH := Lib.hid (hh.below hal)
  have HB := Lib.hid (hbd.below hal)
  have HW := Lib.hid (hw.below hal)
  obtain ⟨a1, c1, rfl, -, hl1, -, -⟩ := hh.form
  obtain ⟨a2, c2, rfl, -, hl2, -, -⟩ := hbd.form
  obtain ⟨a3, c3, rfl, -, hl3, -, -⟩ := hw.form
  clear hh hbd hw
  have hun := fun (x : Int) (e : ruleE r n = x) => e
  obtain ⟨ch, hd, sm, bd, bo, wt⟩ := r
  simp only at *
  have HU := Lib.hid hun
  clear hun
  by_cases hn : n < 0 ∨ 4000 < n
  · have HF : Hid (_ = (2 : Int)) := Lib.hid (HU.out 2 (if_pos hn))
    by_cases hn1 : n < 0
    · go_enter Tryz.func106, Tryz.ntmps106
      go_wp2
      go_ret
      exact ⟨ret_int HF.out.symm, hal⟩
    · have hn2 : 4000 < n := by omega
      go_enter Tryz.func106, Tryz.ntmps106
      go_wp2
      go_ret
      exact ⟨ret_int HF.out.symm, hal⟩
  have hn1 : ¬ n < 0 := by omega
  have hn2 : ¬ 4000 < n := by omega
  cases hi : increasingB hd n with
  | false =>
    have HF : Hid (_ = (172 : Int)) := Lib.hid (HU.out 172 (by simp [ruleE, hn, hi]))
    go_enter Tryz.func106, Tryz.ntmps106
    go_wp2_with (first
                  | (go_at_call 147; refine (increasing_any _ _ n _ HH.out (by omega)).mono ?_; rintro e w1 ⟨rfl, hb1⟩; have hc1 := bcell hb1)
                  | (go_at_call 107; refine (ordered_any _ _ n _ (HB.out.below hb1) (by omega)).mono ?_; rintro e w2 ⟨rfl, hb2⟩; have hz2 : w.heap.size < w1.heap.size := (by have := hb1.size; simp at this; omega); have hc2 := bcell hb2)
                  | (go_at_call 108; refine (weights_any _ _ _ _ ((HW.out.below hb1).below hb2)).mono ?_; rintro e w3 ⟨rfl, rfl⟩))
    go_ret
    exact ⟨ret_int HF.out.symm, bon hal hb1⟩
  | true =>
    by_cases hch : ch = true ∧ hd.length = 0
    · have HF : Hid (_ = (172 : Int)) := Lib.hid (HU.out 172 (by simp [ruleE, hn, hi, hch]))
      obtain ⟨rfl, hch2⟩ := hch
      have hch3 : ((hd.length : Int) == 0) = true := by simp [hch2]
      clear hch2
      go_enter Tryz.func106, Tryz.ntmps106
      go_wp2_with (first
                    | (go_at_call 147; refine (increasing_any _ _ n _ HH.out (by omega)).mono ?_; rintro e w1 ⟨rfl, hb1⟩; have hc1 := bcell hb1)
                    | (go_at_call 107; refine (ordered_any _ _ n _ (HB.out.below hb1) (by omega)).mono ?_; rintro e w2 ⟨rfl, hb2⟩; have hz2 : w.heap.size < w1.heap.size := (by have := hb1.size; simp at this; omega); have hc2 := bcell hb2)
                    | (go_at_call 108; refine (weights_any _ _ _ _ ((HW.out.below hb1).below hb2)).mono ?_; rintro e w3 ⟨rfl, rfl⟩))
      go_ret
      exact ⟨ret_int HF.out.symm, bon hal hb1⟩
    have hch' : ch = false ∨ (ch = true ∧ ((hd.length : Int) == 0) = false) := by
      cases ch with
      | false => exact .inl rfl
      | true => exact .inr ⟨rfl, by simp at hch; simp [hch]⟩
    have HC := Lib.hid hch
    clear hch
    cases ho : orderedB bo n with
    | false =>
      have HF : Hid (_ = (173 : Int)) := Lib.hid (HU.out 173 (by simp only [ruleE, if_neg hn, hi, HC.out, ho]; simp))
      rcases hch' with rfl | ⟨rfl, hch3⟩
      all_goals
        go_enter Tryz.func106, Tryz.ntmps106
        go_wp2_with (first
                      | (go_at_call 147; refine (increasing_any _ _ n _ HH.out (by omega)).mono ?_; rintro e w1 ⟨rfl, hb1⟩; have hc1 := bcell hb1)
                      | (go_at_call 107; refine (ordered_any _ _ n _ (HB.out.below hb1) (by omega)).mono ?_; rintro e w2 ⟨rfl, hb2⟩; have hz2 : w.heap.size < w1.heap.size := (by have := hb1.size; simp at this; omega); have hc2 := bcell hb2)
                      | (go_at_call 108; refine (weights_any _ _ _ _ ((HW.out.below hb1).below hb2)).mono ?_; rintro e w3 ⟨rfl, rfl⟩))
        go_ret
        exact ⟨ret_int HF.out.symm, bon (bon hal hb1) hb2⟩
    | true =>
      have HG : Hid (ruleE ⟨ch, hd, sm, bd, bo, wt⟩ n = if (sm = false ∧ (0 < wt.length ∨ bd ≠ 0)) ∨ (sm = true ∧ (weightsB wt bo.length = false ∨ bd < 0 ∨ 1048576 < bd)) then 174 else 0) :=
        Lib.hid (by simp only [ruleE, if_neg hn, hi, HC.out, ho]; simp)
      cases sm with
      | false =>
        by_cases hl0 : 0 < wt.length
        · have HF : Hid (_ = (174 : Int)) := Lib.hid (HU.out 174 (by rw [HG.out]; simp [hl0]))
          rcases hch' with rfl | ⟨rfl, hch3⟩
          all_goals
            go_enter Tryz.func106, Tryz.ntmps106
            go_wp2_with (first
                          | (go_at_call 147; refine (increasing_any _ _ n _ HH.out (by omega)).mono ?_; rintro e w1 ⟨rfl, hb1⟩; have hc1 := bcell hb1)
                          | (go_at_call 107; refine (ordered_any _ _ n _ (HB.out.below hb1) (by omega)).mono ?_; rintro e w2 ⟨rfl, hb2⟩; have hz2 : w.heap.size < w1.heap.size := (by have := hb1.size; simp at this; omega); have hc2 := bcell hb2)
                          | (go_at_call 108; refine (weights_any _ _ _ _ ((HW.out.below hb1).below hb2)).mono ?_; rintro e w3 ⟨rfl, rfl⟩))
            go_ret
            exact ⟨ret_int HF.out.symm, bon (bon hal hb1) hb2⟩
        · have hl1' : ¬ (0 : Int) < (wt.length : Int) := by omega
          by_cases hb0 : bd = 0
          · have HF : Hid (_ = (0 : Int)) := Lib.hid (HU.out 0 (by rw [HG.out]; simp [hb0]; simpa using hl0))
            subst hb0
            rcases hch' with rfl | ⟨rfl, hch3⟩
            all_goals
              go_enter Tryz.func106, Tryz.ntmps106
              go_wp2_with (first
                            | (go_at_call 147; refine (increasing_any _ _ n _ HH.out (by omega)).mono ?_; rintro e w1 ⟨rfl, hb1⟩; have hc1 := bcell hb1)
                            | (go_at_call 107; refine (ordered_any _ _ n _ (HB.out.below hb1) (by omega)).mono ?_; rintro e w2 ⟨rfl, hb2⟩; have hz2 : w.heap.size < w1.heap.size := (by have := hb1.size; simp at this; omega); have hc2 := bcell hb2)
                            | (go_at_call 108; refine (weights_any _ _ _ _ ((HW.out.below hb1).below hb2)).mono ?_; rintro e w3 ⟨rfl, rfl⟩))
              go_ret
              exact ⟨ret_int HF.out.symm, bon (bon hal hb1) hb2⟩
          · have HF : Hid (_ = (174 : Int)) := Lib.hid (HU.out 174 (by rw [HG.out]; simp [hb0]))
            have hb1 : (bd == 0) = false := by simp [hb0]
            have hb2 : (bd != 0) = true := by simp [hb0]
            rcases hch' with rfl | ⟨rfl, hch3⟩
            all_goals
              go_enter Tryz.func106, Tryz.ntmps106
              go_wp2_with (first
                            | (go_at_call 147; refine (increasing_any _ _ n _ HH.out (by omega)).mono ?_; rintro e w1 ⟨rfl, hb1⟩; have hc1 := bcell hb1)
                            | (go_at_call 107; refine (ordered_any _ _ n _ (HB.out.below hb1) (by omega)).mono ?_; rintro e w2 ⟨rfl, hb2⟩; have hz2 : w.heap.size < w1.heap.size := (by have := hb1.size; simp at this; omega); have hc2 := bcell hb2)
                            | (go_at_call 108; refine (weights_any _ _ _ _ ((HW.out.below hb1).below hb2)).mono ?_; rintro e w3 ⟨rfl, rfl⟩))
              go_ret
              exact ⟨ret_int HF.out.symm, bon (bon hal ‹_›) ‹_›⟩
      | true =>
        cases hwt : weightsB wt bo.length with
        | false =>
          have HF : Hid (_ = (174 : Int)) := Lib.hid (HU.out 174 (by rw [HG.out, hwt]; simp))
          rcases hch' with rfl | ⟨rfl, hch3⟩
          all_goals
            go_enter Tryz.func106, Tryz.ntmps106
            go_wp2_with (first
                          | (go_at_call 147; refine (increasing_any _ _ n _ HH.out (by omega)).mono ?_; rintro e w1 ⟨rfl, hb1⟩; have hc1 := bcell hb1)
                          | (go_at_call 107; refine (ordered_any _ _ n _ (HB.out.below hb1) (by omega)).mono ?_; rintro e w2 ⟨rfl, hb2⟩; have hz2 : w.heap.size < w1.heap.size := (by have := hb1.size; simp at this; omega); have hc2 := bcell hb2)
                          | (go_at_call 108; refine (weights_any _ _ _ _ ((HW.out.below hb1).below hb2)).mono ?_; rintro e w3 ⟨rfl, rfl⟩))
            go_ret
            exact ⟨ret_int HF.out.symm, bon (bon hal ‹_›) ‹_›⟩
        | true =>
          have HF : Hid (_ = if bd < 0 ∨ 1048576 < bd then (174 : Int) else 0) := Lib.hid (HU.out _ (by rw [HG.out, hwt]; simp))
          by_cases hx : bd < 0
          · rw [if_pos (.inl hx)] at HF
            rcases hch' with rfl | ⟨rfl, hch3⟩
            all_goals
              go_enter Tryz.func106, Tryz.ntmps106
              go_wp2_with (first
                            | (go_at_call 147; refine (increasing_any _ _ n _ HH.out (by omega)).mono ?_; rintro e w1 ⟨rfl, hb1⟩; have hc1 := bcell hb1)
                            | (go_at_call 107; refine (ordered_any _ _ n _ (HB.out.below hb1) (by omega)).mono ?_; rintro e w2 ⟨rfl, hb2⟩; have hz2 : w.heap.size < w1.heap.size := (by have := hb1.size; simp at this; omega); have hc2 := bcell hb2)
                            | (go_at_call 108; refine (weights_any _ _ _ _ ((HW.out.below hb1).below hb2)).mono ?_; rintro e w3 ⟨rfl, rfl⟩))
              go_ret
              exact ⟨ret_int HF.out.symm, bon (bon hal ‹_›) ‹_›⟩
          by_cases hy : 1048576 < bd
          · rw [if_pos (.inr hy)] at HF
            rcases hch' with rfl | ⟨rfl, hch3⟩
            all_goals
              go_enter Tryz.func106, Tryz.ntmps106
              go_wp2_with (first
                            | (go_at_call 147; refine (increasing_any _ _ n _ HH.out (by omega)).mono ?_; rintro e w1 ⟨rfl, hb1⟩; have hc1 := bcell hb1)
                            | (go_at_call 107; refine (ordered_any _ _ n _ (HB.out.below hb1) (by omega)).mono ?_; rintro e w2 ⟨rfl, hb2⟩; have hz2 : w.heap.size < w1.heap.size := (by have := hb1.size; simp at this; omega); have hc2 := bcell hb2)
                            | (go_at_call 108; refine (weights_any _ _ _ _ ((HW.out.below hb1).below hb2)).mono ?_; rintro e w3 ⟨rfl, rfl⟩))
              go_ret
              exact ⟨ret_int HF.out.symm, bon (bon hal ‹_›) ‹_›⟩
          · rw [if_neg (by omega)] at HF
            rcases hch' with rfl | ⟨rfl, hch3⟩
            all_goals
              go_enter Tryz.func106, Tryz.ntmps106
              go_wp2_with (first
                            | (go_at_call 147; refine (increasing_any _ _ n _ HH.out (by omega)).mono ?_; rintro e w1 ⟨rfl, hb1⟩; have hc1 := bcell hb1)
                            | (go_at_call 107; refine (ordered_any _ _ n _ (HB.out.below hb1) (by omega)).mono ?_; rintro e w2 ⟨rfl, hb2⟩; have hz2 : w.heap.size < w1.heap.size := (by have := hb1.size; simp at this; omega); have hc2 := bcell hb2)
                            | (go_at_call 108; refine (weights_any _ _ _ _ ((HW.out.below hb1).below hb2)).mono ?_; rintro e w3 ⟨rfl, rfl⟩))
              go_ret
              exact ⟨ret_int HF.out.symm, bon (bon hal ‹_›) ‹_›⟩
set_option maxRecDepth 100000 in
theorem indexByte_any (s : ByteArray) (c : Int) (w : World) :
    Calls Tryz.prog 142 #[.string s, .int .u8 c] w fun e w' => e = .returned (.int .i64 (Lib.indexByte s.data.toList c.toNat.toUInt8)) ∧ w = w' := by
  go_enter Tryz.func142, Tryz.ntmps142
  go_wp2
  rw [run_callFunc_extern Tryz.func176 (by kernel_rfl) (by kernel_rfl) (by kernel_rfl) (e := Extern.BytealgIndexByte.indexByte) (by kernel_rfl), Lib.run_indexByteString]
  simp only [Result.andThen]
  rw [Oper.upon_value]
  go_wp2
  go_ret
  exact ⟨rfl, rfl⟩
def nlI (s : ByteArray) : Int := Lib.indexByte s.data.toList 10
def nlB (s : ByteArray) : Bool := decide (0 ≤ nlI s)
theorem indexNl_any (s : ByteArray) (w : World) :
    Calls Tryz.prog 103 #[.string s, .string ⟨#[10]⟩] w fun e w' => e = .returned (.int .i64 (nlI s)) ∧ w = w' := by
  go_enter Tryz.func103, Tryz.ntmps103
  go_wp2_with (go_at_call 142; refine (indexByte_any _ _ _).mono ?_; rintro e w' ⟨rfl, rfl⟩)
  · have h : ([10] == s.toList) = true := by assumption
    go_ret
    refine ⟨ret_int ?_, rfl⟩
    rw [nlI]
    have h2 : s.data.toList = [10] := by
      have h3 : [10] = s.toList := by simpa using h
      rw [h3]
      exact (Lib.toList_data s).symm
    rw [h2]; rfl
  · go_ret
    exact ⟨ret_int rfl, rfl⟩
theorem stringsIndexNl_any (s : ByteArray) (w : World) :
    Calls Tryz.prog 59 #[.string s, .string ⟨#[10]⟩] w fun e w' => e = .returned (.int .i64 (nlI s)) ∧ w = w' := by
  go_enter Tryz.func59, Tryz.ntmps59
  go_wp2_with (go_at_call 103; refine (indexNl_any _ _).mono ?_; rintro e w' ⟨rfl, rfl⟩)
  go_ret
  exact ⟨ret_int rfl, rfl⟩
theorem containsNl_any (s : ByteArray) (w : World) :
    Calls Tryz.prog 22 #[.string s, .string ⟨#[10]⟩] w fun e w' => e = .returned (.bool (nlB s)) ∧ w = w' := by
  go_enter Tryz.func22, Tryz.ntmps22
  go_wp2_with (go_at_call 59; refine (stringsIndexNl_any _ _).mono ?_; rintro e w' ⟨rfl, rfl⟩)
  go_ret
  exact ⟨ret_bool rfl, rfl⟩
def emptyS (s : ByteArray) : Bool := s.toList.isEmpty
def nameAt (l : List ByteArray) (i : Nat) : Bool := decide ((ixS l i).size ≤ 200) && !nlB (ixS l i) && (emptyS (ixS l i) || allR i (fun j => decide (ixS l j ≠ ixS l i)))
def namesB (l : List ByteArray) : Bool := allR l.length (nameAt l)
def metTo (l : List ByteArray) (k : Nat) : ByteArray → Option Value := fun s => if emptyS s = false ∧ anyR k (fun j => decide (ixS l j = s)) = true then some (.int .i64 1) else none
def NamedRel (l : List ByteArray) (w : World) (b : Nat) (i : Value) (wr : World) : Prop :=
  ∃ k : Nat, k ≤ l.length ∧ i = .int .i64 k ∧ (∀ j, j < k → nameAt l j = true) ∧ Below w.heap.size w wr ∧ w.heap.size ≤ b ∧ MapIs Value.string wr b (metTo l k)
theorem metTo_zero (l : List ByteArray) : metTo l 0 = fun _ => none := by funext s; simp [metTo, anyR]
theorem named_loop_ok (l : List ByteArray) (k : Nat) (hn : nameAt l k = true) (he : emptyS (ixS l k) = false) : metTo l k (ixS l k) = none ∧ metTo l (k + 1) = upd (metTo l k) (ixS l k) (some (.int .i64 1)) := by
  simp only [nameAt, he, Bool.false_or, Bool.and_eq_true] at hn
  constructor
  · rw [metTo, if_neg]
    rintro ⟨_, h⟩
    simp only [anyR, List.any_eq_true, List.mem_range, decide_eq_true_eq] at h
    obtain ⟨j, hj, e⟩ := h
    have := allR_get hn.2 j hj
    simp [e] at this
  · funext s
    simp only [upd, metTo]
    by_cases hs : s = ixS l k
    · subst hs
      rw [if_pos rfl, if_pos ⟨he, anyR_true k (by omega) (by simp)⟩]
    · rw [if_neg hs]
      congr 1
      simp only [anyR, List.any_eq_true, List.mem_range, decide_eq_true_eq, eq_iff_iff, and_congr_right_iff]
      intro _
      constructor
      · rintro ⟨j, hj, e⟩
        refine ⟨j, ?_, e⟩
        rcases Nat.lt_or_ge j k with h | h
        · exact h
        · obtain rfl : j = k := by omega
          exact absurd e.symm hs
      · rintro ⟨j, hj, e⟩; exact ⟨j, by omega, e⟩
theorem named_loop_empty (l : List ByteArray) (k : Nat) (he : emptyS (ixS l k) = true) : metTo l (k + 1) = metTo l k := by
  funext s
  simp only [metTo]
  congr 1
  simp only [anyR, List.any_eq_true, List.mem_range, decide_eq_true_eq, eq_iff_iff, and_congr_right_iff]
  intro hs
  constructor
  · rintro ⟨j, hj, e⟩
    refine ⟨j, ?_, e⟩
    rcases Nat.lt_or_ge j k with h | h
    · exact h
    · obtain rfl : j = k := by omega
      rw [e] at he; rw [he] at hs; cases hs
  · rintro ⟨j, hj, e⟩; exact ⟨j, by omega, e⟩
def namedB (p : GP) : Bool := decide (0 ≤ p.n ∧ p.n ≤ 4000 ∧ (p.names.length : Int) = p.n) && increasingB p.shown p.n && namesB p.names
def NamedPost (p : GP) (w : World) (e : Ending) (w' : World) : Prop := e = .returned (.bool (namedB p)) ∧ Below w.heap.size w w'
set_option maxHeartbeats 1000000 in
set_option maxRecDepth 100000 in
theorem named_any (v : Value) (p : GP) (w : World) (h : ProgIs w v p) :
    Calls Tryz.prog 105 #[v] w (NamedPost p w) := by
  obtain ⟨vn, vs, vr, vm, rfl, hn, hnames, hshown, hrules, hmin⟩ := h
  have hal := bal (Below.refl w.heap.size w) (.cells #[.int .i64 p.n, vn, vs, vr, vm] 27)
  have HS := Lib.hid (hshown.below hal)
  have HN := Lib.hid (hnames.below hal)
  clear hrules hmin
  obtain ⟨a1, c1, rfl, -, hl1, -, hsz, hcell⟩ := hnames.form
  obtain ⟨a2, c2, rfl, -, hl2, -, -⟩ := hshown.form
  clear hshown hnames
  by_cases h1 : p.n < 0
  · have HF : Hid (namedB p = false) := Lib.hid (by simp [namedB]; omega)
    go_enter Tryz.func105, Tryz.ntmps105
    go_wp2
    go_ret
    exact ⟨ret_bool HF.out.symm, hal⟩
  by_cases h2 : 4000 < p.n
  · have HF : Hid (namedB p = false) := Lib.hid (by simp [namedB]; omega)
    go_enter Tryz.func105, Tryz.ntmps105
    go_wp2
    go_ret
    exact ⟨ret_bool HF.out.symm, hal⟩
  by_cases h3 : (p.names.length : Int) = p.n
  case neg =>
    have HF : Hid (namedB p = false) := Lib.hid (by simp [namedB]; omega)
    have h4 : ((p.names.length : Int) != p.n) = true := by simp [h3]
    have h5 : ((p.names.length : Int) == p.n) = false := by simp [h3]
    go_enter Tryz.func105, Tryz.ntmps105
    go_wp2
    go_ret
    exact ⟨ret_bool HF.out.symm, hal⟩
  have h4 : ((p.names.length : Int) != p.n) = false := by simp [h3]
  have h5 : ((p.names.length : Int) == p.n) = true := by simp [h3]
  have H3 := Lib.hid h3
  clear h3
  cases h6 : increasingB p.shown p.n with
  | false =>
    have HF : Hid (namedB p = false) := Lib.hid (by simp [namedB, h6])
    go_enter Tryz.func105, Tryz.ntmps105
    go_wp2_with (go_at_call 147; refine (increasing_any _ _ _ _ HS.out (by omega)).mono ?_; rintro e w1 ⟨rfl, hb1⟩; have hc1 := bcell hb1; have hz1 : w.heap.size < w1.heap.size := (by have := hb1.size; simp at this; omega))
    go_ret
    exact ⟨ret_bool HF.out.symm, bon hal hb1⟩
  | true =>
    have HF : Hid (namedB p = namesB p.names) := Lib.hid (by have := H3.out; simp [namedB, h6, this]; omega)
    have hmm := @run_makeMap Tryz.prog
    go_enter Tryz.func105, Tryz.ntmps105
    go_wp2_with (go_at_call 147; refine (increasing_any _ _ _ _ HS.out (by omega)).mono ?_; rintro e w1 ⟨rfl, hb1⟩; have hc1 := bcell hb1; have hz1 : w.heap.size < w1.heap.size := (by have := hb1.size; simp at this; omega))
    have hmade := MapIs.made (kv := Value.string) w1
    have hb2 := bal (bon hal hb1) (.map #[] 0)
    go_loopw [34] (NamedRel p.names w w1.heap.size) (fun i _ => p.names.length - (intOf i).toNat)
    case atStart => exact ⟨0, by omega, rfl, fun j hj => absurd hj (Nat.not_lt_zero _), hb2, (by have := hb1.size; simp at this; omega), by rw [metTo_zero]; exact hmade⟩
    case round =>
      clear hmm hb2 hmade
      obtain ⟨k, hk, rfl, hok, hb, hbl, hm⟩ := hrel
      have HOK := Lib.hid hok
      clear hok
      by_cases hlt : k < p.names.length
      · obtain ⟨b, off, rfl, hbl1, hc⟩ := hcell (by omega)
        have hk1 : wr.cell? ⟨b, off + k, none⟩ = some (.string (ixS p.names k)) := (bcell hb _ _ hbl1).trans (hc k hlt)
        have hsz1 := hsz k
        clear hc hcell hsz hc1
        have hlk := hm.lookup kvStr Tryz.underlying174 Tryz.underlying9 (Tryz.zeroValue3 wr) (ixS p.names k)
        have hlen : ∀ x, ixS p.names k = x → nameAt p.names k = (decide (x.size ≤ 200) && !nlB x && (emptyS x || allR k (fun j => decide (ixS p.names j ≠ x)))) := fun x e => by subst e; rfl
        have hput : nameAt p.names k = true → ∀ x, ixS p.names k = x → emptyS x = false → metTo p.names k x = none ∧ metTo p.names (k + 1) = upd (metTo p.names k) x (some (.int .i64 1)) := fun h x e he => by subst e; exact named_loop_ok _ _ h he
        have hemp : ∀ x, ixS p.names k = x → emptyS x = true → metTo p.names (k + 1) = metTo p.names k := fun x e he => by subst e; exact named_loop_empty _ _ he
        have hbad : nameAt p.names k = false → Hid (namedB p = false) := fun h => Lib.hid (by rw [HF.out]; exact allR_false k hlt h)
        generalize ixS p.names k = s at hk1 hsz1 hlk hlen hput hemp
        replace hlen := hlen s rfl
        replace hput := fun h => hput h s rfl
        replace hemp := hemp s rfl
        by_cases g1 : 200 < s.size
        · have HB := hbad (by rw [hlen]; simp; omega)
          clear hlen hput hemp hbad hlk
          go_wp2
          go_ret
          exact ⟨ret_bool HB.out.symm, hb⟩
        cases g2 : nlB s with
        | true =>
          have HB := hbad (by rw [hlen, g2]; simp)
          clear hlen hput hemp hbad hlk
          go_wp2_with (first
            | (go_at_call 22; refine (containsNl_any _ _).mono ?_; rintro e w2 ⟨rfl, rfl⟩))
          go_ret
          exact ⟨ret_bool HB.out.symm, hb⟩
        | false =>
          cases g3 : emptyS s with
          | true =>
            have hbs : metTo p.names k s = none := by simp [metTo, g3]
            rw [hbs] at hlk
            have HK : Hid (nameAt p.names k = true) := Lib.hid (by rw [hlen, g2, g3]; simp; omega)
            have HM : Hid (MapIs Value.string wr w1.heap.size (metTo p.names (k + 1))) := Lib.hid (by rw [hemp g3]; exact hm)
            have g4 : s.toList.isEmpty = true := g3
            have g5 : s.toList = [] := by simpa using g4
            clear hlen hput hemp hbad hbs
            simp only [Option.getD_none] at hlk
            go_wp2_with (first
              | (go_at_call 22; refine (containsNl_any _ _).mono ?_; rintro e w2 ⟨rfl, rfl⟩))
            first
              | (go_roundw
                 case rel => (exact ⟨k + 1, by omega, by go_num, lt_succ_all HOK.out HK.out, hb, hbl, HM.out⟩)
                 case measure => (simp [intOf]; omega))
              | (refine ⟨?_, ?_⟩
                 · (exact ⟨k + 1, by omega, by go_num, lt_succ_all HOK.out HK.out, hb, hbl, HM.out⟩)
                 · (simp [intOf]; omega))
          | false =>
            have g4 : s.toList.isEmpty = false := g3
            have g5 : ¬ s.toList = [] := by simpa using g4
            cases g6 : nameAt p.names k with
            | false =>
              have HB := hbad g6
              have hany : anyR k (fun j => decide (ixS p.names j = s)) = true := by
                rw [hlen, g2, g3] at g6
                simp only [Bool.not_false, Bool.and_true, Bool.false_or, Bool.and_eq_false_iff, decide_eq_false_iff_not] at g6
                rcases g6 with g6 | g6
                · exact absurd (by omega) g6
                · simp [allR] at g6
                  obtain ⟨j, hj, e⟩ := g6
                  exact anyR_true j hj (by simpa using e)
              have hbs : metTo p.names k s = some (.int .i64 1) := by rw [metTo, if_pos ⟨g3, hany⟩]
              rw [hbs] at hlk
              clear hlen hput hemp hbad hbs
              simp only [Option.getD_some] at hlk
              go_wp2_with (first
                | (go_at_call 22; refine (containsNl_any _ _).mono ?_; rintro e w2 ⟨rfl, rfl⟩))
              go_ret
              exact ⟨ret_bool HB.out.symm, hb⟩
            | true =>
              obtain ⟨hbs, hup⟩ := hput g6 g3
              rw [hbs] at hlk
              have HK := Lib.hid g6
              have HUP := Lib.hid hup
              have HMM := Lib.hid hm
              clear hlen hput hemp hbad hbs hup g6 hm
              simp only [Option.getD_none] at hlk
              go_wp2_with (first
                | (go_at_call 22; refine (containsNl_any _ _).mono ?_; rintro e w2 ⟨rfl, rfl⟩)
                | (at_mapUpdate; refine wpList_mput _ _ s (.int .i64 1) kvStr 174 9 3 Tryz.underlying174 Tryz.underlying9 rfl _ _ _ rfl rfl rfl rfl HMM.out ?_; intro w2 hm2 hg2 hs2))
              have HM : Hid (MapIs Value.string w2 w1.heap.size (metTo p.names (k + 1))) := Lib.hid (by rw [HUP.out]; exact hm2)
              have hb2 := hb.grown hg2 hb.size (fun j e => by cases e; exact hbl)
              first
                | (go_roundw
                   case rel => (exact ⟨k + 1, by omega, by go_num, lt_succ_all HOK.out HK.out, hb2, hbl, HM.out⟩)
                   case measure => (simp [intOf]; omega))
                | (refine ⟨?_, ?_⟩
                   · (exact ⟨k + 1, by omega, by go_num, lt_succ_all HOK.out HK.out, hb2, hbl, HM.out⟩)
                   · (simp [intOf]; omega))
      · have HL : Hid (k = p.names.length) := Lib.hid (by omega)
        go_wp2
        go_ret
        exact ⟨ret_bool (by rw [HF.out]; exact (allR_true (by rw [← HL.out]; exact HOK.out)).symm), hb⟩
end Go.Proofs.YtgakoainjgjimaaGreatDoor
