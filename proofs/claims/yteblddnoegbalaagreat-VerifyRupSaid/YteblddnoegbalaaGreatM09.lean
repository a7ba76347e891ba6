/- My texts Nrm1, merged. -/
import Derived.Test.YteblddnoegbalaaGreatM08
import Derived.Test.YteblddnoegbalaaGreatM05
import Derived.Test.YteblddnoegbalaaGreatM04
import Derived.Test.YteblddnoegbalaaGreatM00
import Derived.Test.YteblddnoegbalaaGreatProg
import Derived.WalkKit
import Derived.Lib.Hide
import Derived.Deep.QuietTactic
import Derived.BigQuiet
import Derived.Test.YteblddnoegbalaaGreatM03
import Derived.WalkSpells
import Derived.Lib.SliceRun
import Derived.MapKept
import Derived.Maps.OwnSet
import Derived.Maps.OwnOps
import Derived.Test.YteblddnoegbalaaGreatM02
import Derived.Test.YteblddnoegbalaaGreatM01
import Derived.Deep.AppendLies
import Derived.Lib.Bytealg
import Derived.Deep.DeepCutAuto
import Derived.RangeFuncNested
import Derived.RangeFuncBound
import Derived.RangeFuncCalls
import Derived.RangeFuncLeaves
import Derived.OwnWalkIn
import Derived.TacticsInMore
import Derived.LoopNIn
import Derived.LoopIn
import Derived.Stop.RegionWithIn
import Derived.Shelf.Abstract
import Derived.Maps.RangeWalk
import Derived.Test.YteblddnoegbalaaGreatM07
import Derived.Test.YteblddnoegbalaaGreatM06
import Derived.Lib.SlicesCompact
import Derived.Shelf.Sort.Plain
import Derived.Shelf.Slices.CompactI
import Derived.Shelf.Slices.In.SortNone
import Derived.Shelf.Strconv.Itoa3
import Derived.Shelf.Strings.BuilderK
import Derived.Shelf.Slices.SearchI
import Derived.Shelf.Slices.Empties
import Derived.Sort.OwnSortedInts

namespace Go.Proofs.YteblddnoegbalaaGreat
open Go.RowKit
def PBQ (base : Nat) (w : World) (v : Value) (c : PBC) : Prop := ∃ vl vk, v = .agg #[vl, vk, .int .i64 c.bound] ∧ QRow base w vl c.lits ∧ QRow base w vk c.coefs ∧ InI c.bound ∧ c.lits.length ≤ 65536 ∧ c.coefs.length ≤ 65536
theorem PBQ.is {base : Nat} {w : World} {v : Value} {c : PBC} (h : PBQ base w v c) : PBIs w v c :=
  let ⟨vl, vk, e, h1, h2, h3, h4, h5⟩ := h; ⟨vl, vk, e, h1.ints (by omega), h2.ints (by omega), h3⟩
theorem PBQ.below {base : Nat} {w w' : World} {v : Value} {c : PBC} (h : PBQ base w v c) (hb : Below w.heap.size w w') : PBQ base w' v c :=
  let ⟨vl, vk, e, h1, h2, h3⟩ := h; ⟨vl, vk, e, h1.below hb, h2.below hb, h3⟩
abbrev pbZ : List Value := [.slice none 0 0, .slice none 0 0, .int .i64 0]
structure N1St (L K : List Int) (w : World) (k : Nat) (wx : World) : Prop where
  map : MapIs (Value.int .i64) wx (w.heap.size + 1) (mapK L K k)
  below : Below w.heap.size w wx
  box : Blk wx w.heap.size pbZ 25
  ok : ∀ j, j < k → pokAt L K j = true
def N1Rel (L K : List Int) (B : Int) (w : World) (b i : Value) (wx : World) : Prop := ∃ k : Nat, k ≤ L.length ∧ i = .int .i64 k ∧ b = .int .i64 (B - negTo L K k) ∧ N1St L K w k wx
theorem N1St.put {L K : List Int} {w wr w7 : World} {k : Nat} {x y : Int} (h : N1St L K w k wr) (hk : k < L.length) (hp : pokAt L K k = true) (hx : ((ix L k).natAbs : Int) = x) (hy : y = byTo L K x (k + 1))
    (hm : MapIs (Value.int .i64) w7 (w.heap.size + 1) (upd (mapK L K k) x (some (.int .i64 y)))) (hg : wr.grownBy w7 (some (w.heap.size + 1))) : N1St L K w (k + 1) w7 := by
  have hok : ∀ j, j < k + 1 → pokAt L K j = true := fun j hj => by
    by_cases e : j = k
    · subst e; exact hp
    · exact h.ok j (by omega)
  rw [mapK_step hk (fun j hj => (pok_at (hok j hj)).1) hx hy] at hm
  refine ⟨hm, h.below.trans ⟨hg.os, hg.tape, hg.output, hg.size, fun i hi => hg.block i (by have := h.below.size; omega) (fun e => by have := Option.some.inj e; omega)⟩, h.box.same (hg.block _ h.box.lt (fun e => by have := Option.some.inj e; omega)), hok⟩
theorem by_small {L K : List Int} {v : Int} {i : Nat} (hi : i ≤ 65536) (h : ∀ j, j < i → pokAt L K j = true) : -1099511627776 ≤ byTo L K v i ∧ byTo L K v i ≤ 1099511627776 := by
  have h1 := byTo_bound (L := L) (K := K) (v := v) i (fun j hj => (pok_at (h j hj)).2.2.2)
  omega
theorem neg_small {L K : List Int} {i : Nat} (hi : i ≤ 65536) (h : ∀ j, j < i → pokAt L K j = true) : -1099511627776 ≤ negTo L K i ∧ negTo L K i ≤ 1099511627776 := by
  have h1 := negTo_bound (L := L) (K := K) i (fun j hj => (pok_at (h j hj)).2.2.2)
  omega
theorem pok_fail {L K : List Int} {B : Int} (h0 : ¬ (L.length ≠ K.length ∨ 65536 < L.length ∨ B < -1099511627776 ∨ 1099511627776 < B)) {k : Nat} (hk : k < L.length) (h : pokAt L K k = false) : normP L K B = (⟨[], [], 0⟩, 2) := by
  unfold normP
  rw [if_neg h0, if_pos (allR_false k hk h)]
theorem pok_all {L K : List Int} {B : Int} (h0 : ¬ (L.length ≠ K.length ∨ 65536 < L.length ∨ B < -1099511627776 ∨ 1099511627776 < B)) (h : ∀ k, k < L.length → pokAt L K k = true) :
    normP L K B = normC (fun v => byTo L K v L.length) ((keysOf L).filter fun v => byTo L K v L.length != 0) (B - negTo L K L.length - sumI (fun v => lowI (byTo L K v L.length)) (keysOf L)) := by
  unfold normP
  rw [if_neg h0, if_neg (by rw [allR_true h]; exact Bool.false_ne_true ∘ Eq.symm)]
section
variable {κ : Type} {kv : κ → Value} {P : Program} {w : World} {ops : Array Oper} {rest : List Oper} {o : Oper} {a : Act} {Q : Exit → Act → World → Prop}
theorem wpList_mnext0 [DecidableEq κ] (g : κ → Option Value) (b r : Nat) (left : κ → Bool) (hinj : ∀ a c, kv a = kv c → a = c)
    (hg : o.guard = none) (it : Operand) (hop : o.op = Op.next it false) (hit : a.eval it = .pointer (some ⟨r, 0, none⟩)) (h : RangeIs kv w b r g left 0)
    (hDone : (∀ k, left k = false) → wpList P ops Q rest (a.put o.dst (.tuple #[.bool false])) w) : wpList P ops Q (o :: rest) a w :=
  wpList_mnext g b r left 0 hinj hg it hop hit h (fun _ => hDone) (fun _ _ _ _ _ _ _ hlt => absurd hlt (Nat.not_lt_zero _))
theorem wpList_mnext1 [DecidableEq κ] (g : κ → Option Value) (b r : Nat) (left : κ → Bool) (cnt : Nat) (hc : cnt ≠ 0) (hinj : ∀ a c, kv a = kv c → a = c)
    (hg : o.guard = none) (it : Operand) (hop : o.op = Op.next it false) (hit : a.eval it = .pointer (some ⟨r, 0, none⟩)) (h : RangeIs kv w b r g left cnt)
    (hMore : ∀ k v w' cnt', left k = true → g k = some v → RangeIs kv w' b r g (fun x => left x && !decide (x = k)) cnt' → cnt' < cnt → w.grownBy w' (some r) → w'.heap.size = w.heap.size →
      (Instr.entry (.pointer (some ⟨r, 0, none⟩))).run P w' = .ok (.tuple #[kv k, v]) w' → wpList P ops Q rest (a.put o.dst (.tuple #[.bool true, kv k, v])) w') : wpList P ops Q (o :: rest) a w :=
  wpList_mnext g b r left cnt hinj hg it hop hit h (fun h0 => absurd h0 hc) hMore
end
theorem kvI_inj : ∀ a c : Int, Value.int .i64 a = Value.int .i64 c → a = c := fun _ _ h => by injection h
theorem below3 {n : Nat} {w wr : World} (h : Below n w wr) (b : Nat) (hb : n ≤ b) (x y z : Value) : Below n w (((wr.setCell ⟨b, 0, none⟩ x).setCell ⟨b, 1, none⟩ y).setCell ⟨b, 2, none⟩ z) :=
  ((h.setCell (p := ⟨b, 0, none⟩) hb _).setCell (p := ⟨b, 1, none⟩) hb _).setCell (p := ⟨b, 2, none⟩) hb _
theorem row3 {base : Nat} {wr : World} {v : Value} {l : List Int} (h : QRow base wr v l) (b : Nat) (hb : b < base) (x y z : Value) : QRow base (((wr.setCell ⟨b, 0, none⟩ x).setCell ⟨b, 1, none⟩ y).setCell ⟨b, 2, none⟩ z) v l :=
  h.kept fun i h1 _ _ => ((Below.heap_setCell _ _ _ _ (by show i ≠ b; omega)).trans (Below.heap_setCell _ _ _ _ (by show i ≠ b; omega))).trans (Below.heap_setCell _ _ _ _ (by show i ≠ b; omega))
def flK (L K : List Int) (ks : List Int) : List Int := ks.filter fun v => byTo L K v L.length != 0
def lowS (L K : List Int) (ks : List Int) : Int := sumI (fun v => lowI (byTo L K v L.length)) ks
theorem flK_snoc (L K : List Int) (ks : List Int) (v : Int) : flK L K (ks ++ [v]) = if byTo L K v L.length = 0 then flK L K ks else flK L K ks ++ [v] := by
  unfold flK
  rw [List.filter_append]
  by_cases h : byTo L K v L.length = 0 <;> simp [h]
theorem lowS_snoc (L K : List Int) (ks : List Int) (v : Int) : lowS L K (ks ++ [v]) = if byTo L K v L.length < 0 then lowS L K ks + byTo L K v L.length else lowS L K ks := by
  unfold lowS
  rw [sumI_snoc]
  unfold lowI
  split <;> omega
structure N2W (L K : List Int) (w : World) (R0 : Nat) (left : Int → Bool) (cnt : Nat) (v12 : Value) (l : List Int) (wx : World) : Prop where
  rng : RangeIs (Value.int .i64) wx (w.heap.size + 1) R0 (mapK L K L.length) left cnt
  row : wx.ownsRow (R0 + 1) 3 1 v12 l.length (l.map (Value.int .i64))
  below : Below w.heap.size w wx
  box : Blk wx w.heap.size pbZ 25
  lt : w.heap.size + 1 < R0
def N2Rel (L K : List Int) (B : Int) (w : World) (R0 : Nat) (b v12 : Value) (wx : World) : Prop :=
  ∃ left cnt ks, Met L left ks ∧ b = .int .i64 (B - negTo L K L.length - lowS L K ks) ∧ N2W L K w R0 left cnt v12 (flK L K ks) wx
section
variable {L K : List Int} {w wr w1 w4 : World} {R0 : Nat} {left : Int → Bool} {cnt : Nat} {v12 : Value} {l : List Int}
theorem N2W.step (h : N2W L K w R0 left cnt v12 l wr) {left' : Int → Bool} {cnt' : Nat} (hr : RangeIs (Value.int .i64) w1 (w.heap.size + 1) R0 (mapK L K L.length) left' cnt') (hg : wr.grownBy w1 (some R0)) : N2W L K w R0 left' cnt' v12 l w1 := by
  refine ⟨hr, ?_, h.below.trans ⟨hg.os, hg.tape, hg.output, hg.size, fun i hi => hg.block i (by have := h.below.size; omega) (fun e => by have := h.lt; have := Option.some.inj e; omega)⟩, h.box.same (hg.block _ h.box.lt (fun e => by have := h.lt; have := Option.some.inj e; omega)), h.lt⟩
  refine h.row.kept hg ?_
  rcases h.row.2 with ⟨e2, _⟩ | ⟨g', cap, cur, e2, hb, _⟩
  · rw [e2]; exact .inl rfl
  · rw [e2]; refine .inr fun e => ?_
    have : g' = R0 := Option.some.inj e
    omega
theorem N2W.form (h : N2W L K w R0 left cnt v12 l wr) : ∃ a n c, v12 = .slice a n c := by
  rcases h.row.2 with ⟨e2, _⟩ | ⟨g', cap, cur, e2, hb, _⟩ <;> exact ⟨_, _, _, e2⟩
theorem N2W.own (h : N2W L K w R0 left cnt v12 l w1) : ∀ g, v12.ownBlock = some g → R0 + 1 ≤ g := fun g e => by
  rcases h.row.2 with ⟨e2, _⟩ | ⟨g', cap, cur, e2, hb, _⟩
  · rw [e2] at e; cases e
  · rw [e2] at e
    simp only [Value.ownBlock, Option.some.injEq] at e
    omega
theorem N2W.sorted (h : N2W L K w R0 left cnt v12 l w1) (hg : w1.grownBy w4 v12.ownBlock) : MapIs (Value.int .i64) w4 (w.heap.size + 1) (mapK L K L.length) ∧ Below w.heap.size w w4 ∧ Blk w4 w.heap.size pbZ 25 ∧ w.heap.size + 1 < w4.heap.size := by
  have hown := h.own
  have hlt := h.rng.lt
  have hl := h.lt
  have hsz := hg.size
  exact ⟨h.rng.map.same (hg.block _ h.rng.map.lt (fun e => by have := hown _ e.symm; omega)), h.below.grown hg h.below.size (fun k e => by have := hown _ e; omega), h.box.same (hg.block _ h.box.lt (fun e => by have := hown _ e.symm; omega)), by omega⟩
theorem N2W.push (h : N2W L K w R0 left cnt v12 l w1) {o : Obj} {x : Int} {v4 : Value} (hg : (w1.alloc o).grownBy w4 v12.ownBlock) (hrow : w4.ownsRow (R0 + 1) 3 1 v4 (l.length + 1) (l.map (Value.int .i64) ++ [.int .i64 x])) : N2W L K w R0 left cnt v4 (l ++ [x]) w4 := by
  have hal := bal (Below.refl w1.heap.size w1) o
  have hz : (w1.alloc o).heap.size = w1.heap.size + 1 := World.size_alloc ..
  have hown : ∀ g, v12.ownBlock = some g → R0 + 1 ≤ g := fun g e => by
    rcases h.row.2 with ⟨e2, _⟩ | ⟨g', cap, cur, e2, hb, _⟩
    · rw [e2] at e; cases e
    · rw [e2] at e
      simp only [Value.ownBlock, Option.some.injEq] at e
      omega
  have hlt := h.rng.lt
  have hsz := h.below.size
  have hl := h.lt
  have hrng : RangeIs (Value.int .i64) w4 (w.heap.size + 1) R0 (mapK L K L.length) left cnt := (h.rng.alloc o).grown hg (fun e => by have := hown _ e.symm; omega) (fun e => by have := hown _ e.symm; omega)
  refine ⟨hrng, ?_, (h.below.trans (hal.mono hsz)).grown hg (by omega) (fun k e => by have := hown _ e; omega), (h.box.alloc o).same (hg.block _ (h.box.alloc o).lt (fun e => by have := hown _ e.symm; omega)), h.lt⟩
  rw [List.length_append, List.map_append]
  exact hrow
end
def litsTo (L K V : List Int) (k : Nat) : List Int := (V.take k).map (litOf fun v => byTo L K v L.length)
def coefTo (L K V : List Int) (bd : Int) (k : Nat) : List Int := (V.take k).map fun v => minI (absI (byTo L K v L.length)) bd
def sumN (L K V : List Int) (bd : Int) (k : Nat) : Int := sumI (fun v => minI (absI (byTo L K v L.length)) bd) (V.take k)
theorem take_ixN (V : List Int) (k : Nat) (hk : k < V.length) : V.take (k + 1) = V.take k ++ [ix V k] := by
  rw [List.take_add_one, List.getElem?_eq_getElem hk]
  simp [ix, List.getD_eq_getElem?_getD, List.getElem?_eq_getElem hk]
theorem litsTo_succ {L K V : List Int} {k : Nat} (hk : k < V.length) : litsTo L K V (k + 1) = litsTo L K V k ++ [litOf (fun v => byTo L K v L.length) (ix V k)] := by simp [litsTo, take_ixN V k hk]
theorem coefTo_succ {L K V : List Int} {bd : Int} {k : Nat} (hk : k < V.length) : coefTo L K V bd (k + 1) = coefTo L K V bd k ++ [minI (absI (byTo L K (ix V k) L.length)) bd] := by simp [coefTo, take_ixN V k hk]
theorem sumN_succ {L K V : List Int} {bd : Int} {k : Nat} (hk : k < V.length) : sumN L K V bd (k + 1) = sumN L K V bd k + minI (absI (byTo L K (ix V k) L.length)) bd := by simp [sumN, take_ixN V k hk, sumI_snoc]
structure N3St (L K V : List Int) (w W3 : World) (bd : Int) (k : Nat) (vl vk : Value) (wx : World) : Prop where
  up : Below W3.heap.size W3 wx
  out : Blk wx W3.heap.size [vl, vk, .int .i64 bd] 25
  rl : QRow (W3.heap.size + 1) wx vl (litsTo L K V k)
  rk : QRow (W3.heap.size + 1) wx vk (coefTo L K V bd k)
  far : Far vl vk
def N3Rel (L K V : List Int) (w W3 : World) (bd : Int) (s i : Value) (wx : World) : Prop :=
  ∃ (k : Nat) (vl vk : Value), k ≤ V.length ∧ i = .int .i64 k ∧ s = .int .i64 (sumN L K V bd k) ∧ N3St L K V w W3 bd k vl vk wx
theorem N3St.start (L K V : List Int) (w W3 : World) (bd : Int) : N3St L K V w W3 bd 0 (.slice none 0 0) (.slice none 0 0) (W3.alloc (.cells #[.slice none 0 0, .slice none 0 0, .int .i64 bd] 25)) :=
  ⟨bal (Below.refl _ _) _, Blk.new W3 [.slice none 0 0, .slice none 0 0, .int .i64 bd] _, QRow.nil _ _, QRow.nil _ _, fun g e => by cases e⟩
theorem N3St.step {L K V : List Int} {w W3 wr w' : World} {k : Nat} {bd : Int} {vl vk vl' vk' : Value} (h : N3St L K V w W3 bd k vl vk wr) (hk : k < V.length) (hb : Below W3.heap.size wr w')
    (ho : Blk w' W3.heap.size [vl', vk', .int .i64 bd] 25) (h1 : QRow (W3.heap.size + 1) w' vl' (litsTo L K V k ++ [litOf (fun v => byTo L K v L.length) (ix V k)])) (h2 : QRow (W3.heap.size + 1) w' vk' (coefTo L K V bd k ++ [minI (absI (byTo L K (ix V k) L.length)) bd])) (hf : Far vl' vk') :
    N3St L K V w W3 bd (k + 1) vl' vk' w' :=
  ⟨h.up.trans hb, ho, by rw [litsTo_succ hk]; exact h1, by rw [coefTo_succ hk]; exact h2, hf⟩
theorem sumN_small {L K V : List Int} {bd : Int} (hb : 0 < bd) (hy : ∀ v, -1099511627776 ≤ byTo L K v L.length ∧ byTo L K v L.length ≤ 1099511627776) : ∀ k : Nat, k ≤ V.length → 0 ≤ sumN L K V bd k ∧ sumN L K V bd k ≤ 1099511627776 * k
  | 0, _ => by simp [sumN, sumI]
  | k + 1, h => by
    have ih := sumN_small (L := L) (K := K) (V := V) hb hy k (by omega)
    rw [sumN_succ (by omega)]
    have h0 := hy (ix V k)
    have h1 : 0 ≤ minI (absI (byTo L K (ix V k) L.length)) bd ∧ minI (absI (byTo L K (ix V k) L.length)) bd ≤ 1099511627776 := by
      unfold minI absI
      split <;> split <;> omega
    omega
theorem lowS_small {L K : List Int} (hy : ∀ v, -1099511627776 ≤ byTo L K v L.length ∧ byTo L K v L.length ≤ 1099511627776) (ks : List Int) : -(1099511627776 * (ks.length : Int)) ≤ lowS L K ks ∧ lowS L K ks ≤ 0 := by
  unfold lowS
  induction ks with
  | nil => simp [sumI]
  | cons v ks ih =>
    have h := hy v
    have h1 : -1099511627776 ≤ lowI (byTo L K v L.length) ∧ lowI (byTo L K v L.length) ≤ 0 := by unfold lowI; split <;> omega
    simp only [sumI, List.length_cons]
    omega
end Go.Proofs.YteblddnoegbalaaGreat
