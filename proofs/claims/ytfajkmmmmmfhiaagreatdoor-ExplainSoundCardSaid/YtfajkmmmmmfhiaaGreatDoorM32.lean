/- My texts Plain1, QRow, Cm2, Lp9, Cm3, Find, MoreP, Lp11, StabP, App, Subs, Stb1, Lp8R, AppIn, Mk1, Lt0, StG, Ex2, Sn41, Ck41, Sm20, StH, StJ, merged. -/
import Derived.Test.YtfajkmmmmmfhiaaGreatDoorM04
import Derived.Test.YtfajkmmmmmfhiaaGreatDoorM03
import Derived.Test.YtfajkmmmmmfhiaaGreatDoorM00
import Derived.Test.YtfajkmmmmmfhiaaGreatDoorM22
import Derived.Test.YtfajkmmmmmfhiaaGreatDoorProg
import Derived.WalkKit
import Derived.Lib.Hide
import Derived.Deep.QuietTactic
import Derived.BigQuiet
import Derived.Lib.Bytealg
import Derived.MapKept
import Derived.Maps.OwnSet
import Derived.Maps.OwnOps
import Derived.WalkSpells
import Derived.Lib.SliceRun
import Derived.Test.YtfajkmmmmmfhiaaGreatDoorM02
import Derived.Test.YtfajkmmmmmfhiaaGreatDoorM20
import Derived.Test.YtfajkmmmmmfhiaaGreatDoorM01
import Derived.Deep.AppendLies
import Derived.Test.YtfajkmmmmmfhiaaGreatDoorM06
import Derived.Test.YtfajkmmmmmfhiaaGreatDoorM05
import Derived.Deep.DeepCutAuto
import Derived.Laws.EntriesVeiled
import Derived.Deep.RegionWith
import Derived.Deep.OwnRows
import Derived.RangeFuncNested
import Derived.RangeFuncBound
import Derived.RangeFuncCalls
import Derived.RangeFuncLeaves
import Derived.OwnWalkIn
import Derived.TacticsInMore
import Derived.LoopNIn
import Derived.LoopIn
import Derived.Stop.RegionWithIn
import Derived.Shelf.Abstract
import Derived.Test.YtfajkmmmmmfhiaaGreatDoorM07
import Derived.Deep.LoopGhost
import Derived.Test.YtfajkmmmmmfhiaaGreatDoorM23
import Derived.Deep.DrawnRows
import Derived.Test.YtfajkmmmmmfhiaaGreatDoorM24
import Derived.Deep.AppendSrc
import Derived.Test.YtfajkmmmmmfhiaaGreatDoorM09
import Derived.Test.YtfajkmmmmmfhiaaGreatDoorM11
import Derived.Test.YtfajkmmmmmfhiaaGreatDoorM12
import Derived.Test.YtfajkmmmmmfhiaaGreatDoorM15
import Derived.Maps.OwnIn
import Derived.Test.YtfajkmmmmmfhiaaGreatDoorM14
import Derived.Maps.RangeWalk
import Derived.Lib.SlicesCompact
import Derived.Shelf.Sort.Plain
import Derived.Shelf.Slices.CompactI
import Derived.Shelf.Slices.In.SortNone
import Derived.Shelf.Strconv.Itoa3
import Derived.Shelf.Strings.BuilderK
import Derived.Shelf.Slices.SearchI
import Derived.Shelf.Slices.Empties
import Derived.Sort.OwnSortedInts
import Derived.Sort.QuietThIn
import Derived.RangeFuncBox
import Derived.Lib.RowBridge
import Derived.Test.YtfajkmmmmmfhiaaGreatDoorM16
import Derived.Test.YtfajkmmmmmfhiaaGreatDoorM13
import Derived.Test.YtfajkmmmmmfhiaaGreatDoorM08
import Derived.Test.YtfajkmmmmmfhiaaGreatDoorM17
import Derived.Test.YtfajkmmmmmfhiaaGreatDoorM10
import Derived.Lib.ItoaNum
import Derived.Deep.DeepMust
import Derived.ProofKit
import Derived.OpenShut
import Derived.ChangeArms
import Derived.SizedLaws

namespace Go.Proofs.YtfajkmmmmmfhiaaGreatDoor
open Go.RowKit
def GP.bare (p : GP) : GP := { p with shown := [], min := [] }
theorem below_grown {W w1 w4 : World} {o : Obj} {row : Option Nat} (h : Below W.heap.size W w1) (hb : ∀ g, row = some g → W.heap.size ≤ g) (hg : (w1.alloc o).grownBy w4 row) : Below W.heap.size W w4 := by
  refine h.trans ⟨hg.os, hg.tape, hg.output, by have := hg.size; simp at this; omega, fun i hi => ?_⟩
  exact (hg.block i (by simp; have := h.size; omega) (fun e => by have := hb i e.symm; omega)).trans (Below.heap_alloc _ _ _ (by have := h.size; omega))
def extAt (p : GP) (m : List Int) (j : Nat) : Int := if (j : Int) < p.n then (if (j : Int) + 1 ∈ m then 1 else -1) else (if bodyT (ixR p.rules (j - p.n.toNat)) m then 1 else -1)
def extA (p : GP) (m : List Int) : List Int := if validE p = 0 ∧ setQ p.n m = true then (List.range (p.n.toNat + p.rules.length)).map (extAt p m) else []
end Go.Proofs.YtfajkmmmmmfhiaaGreatDoor
namespace Go.Proofs.YtfajkmmmmmfhiaaGreatDoor
open Go.RowKit Go.Shelf
attribute [local go_sem] Oper.semAt_some
theorem keeps_below {B : Nat} {W W' : World} (h : Below W.heap.size W W') : KeepsFrom B W W' := ⟨h.size, fun k _ _ hk _ => (h.block k (Array.getElem?_eq_some_iff.1 hk).1).trans hk⟩
end Go.Proofs.YtfajkmmmmmfhiaaGreatDoor
namespace Go.Proofs.YtfajkmmmmmfhiaaGreatDoor
open Go.RowKit
def suppB (p : GP) (m : List Int) : Bool := modelsB p m && allR m.length (fun j => anyR p.rules.length (fun i => bodyT (ixR p.rules i) m && decide (ix m j ∈ (ixR p.rules i).head)))
def findTo (F : Int → Int) (a : List Int) : Nat → List Int
  | 0 => []
  | k + 1 => if ¬ 0 < F ((k : Int) + 1) ∧ offB a ((k : Int) + 1) = false then findTo F a k ++ [(k : Int) + 1] else findTo F a k
theorem ixR_of_mem {l : List GR} {r : GR} (h : r ∈ l) : ∃ i, i < l.length ∧ ixR l i = r := by
  obtain ⟨i, hi, e⟩ := List.mem_iff_getElem.1 h
  exact ⟨i, hi, by simp [ixR, List.getD_eq_getElem?_getD, List.getElem?_eq_getElem hi, e]⟩
theorem anyR_not {n : Nat} {f : Nat → Bool} (h : anyR n f = false) (k : Nat) (hk : k < n) : f k = false := by
  cases e : f k with
  | false => rfl
  | true => rw [anyR_true k hk e] at h; cases h
theorem avW_self (m : List Int) (r : GR) : ∀ k, avW m m r k = wsum m r k
  | 0 => rfl
  | k + 1 => by unfold avW wsum; rw [avW_self m r k]; rfl
theorem avT_self (m : List Int) (r : GR) : avT m m r = bodyT r m := by
  unfold avT bodyT
  rw [avW_self]
  rfl
theorem closed_red {p : GP} {m T : List Int} (hB : ∀ i, i < p.rules.length → BodyW (ixR p.rules i) p.n) :
    ClosedD (redL p m) T ↔ ∀ i, i < p.rules.length → avT T m (ixR p.rules i) = true → ∀ x ∈ (ixR p.rules i).head, ((ixR p.rules i).choice = true → x ∈ m) → x ∈ T := by
  constructor
  · intro h i hi ha x hx hc
    cases hr : redB m (ixR p.rules i) with
    | none => rw [red_none T hr] at ha; cases ha
    | some y =>
      have hn := (red_some T (hB i hi) hr).2 ha
      cases hch : (ixR p.rules i).choice with
      | true =>
        have h1 : withHead y [x] ∈ redL p m := (redTo_mem _).2 ⟨i, hi, redR_mem.2 ⟨y, [x], hr, rfl, .inl ⟨hch, x, hx, hc hch, rfl⟩⟩⟩
        obtain ⟨q, hq, e⟩ := ixR_of_mem h1
        have h2 := h q hq
        rw [e, (withHead_need y [x] T).1, (withHead_need y [x] T).2] at h2
        exact h2 hn x (List.mem_singleton.2 rfl)
      | false =>
        have h1 : withHead y (ixR p.rules i).head ∈ redL p m := (redTo_mem _).2 ⟨i, hi, redR_mem.2 ⟨y, _, hr, rfl, .inr ⟨hch, rfl⟩⟩⟩
        obtain ⟨q, hq, e⟩ := ixR_of_mem h1
        have h2 := h q hq
        rw [e, (withHead_need y _ T).1, (withHead_need y _ T).2] at h2
        exact h2 hn x hx
  · intro h q hq hn x hx
    have h1 : ixR (redL p m) q ∈ redL p m := ixR_mem hq
    obtain ⟨i, hi, h2⟩ := (redTo_mem _).1 h1
    obtain ⟨y, hd, hr, e, h3⟩ := redR_mem.1 h2
    rw [e, (withHead_need y _ T).1, (withHead_need y _ T).2] at hn
    rw [e] at hx
    have ha := (red_some T (hB i hi) hr).1 hn
    rcases h3 with ⟨hc, a, h4, h5, rfl⟩ | ⟨hc, rfl⟩
    · obtain rfl := List.mem_singleton.1 (show x ∈ [a] from hx)
      exact h i hi ha x h4 (fun _ => h5)
    · exact h i hi ha x hx (fun e => by rw [hc] at e; cases e)
def flatP (p : GP) : Bool := allR p.rules.length (fun i => (ixR p.rules i).choice || decide ((ixR p.rules i).head.length ≤ 1))
theorem red_definite {p : GP} {m : List Int} (hv : validE p = 0) (hf : flatP p = true) (hl : (redL p m).length ≤ 40000) : definiteB p.n (redL p m) = true := by
  have hn := (validP hv).n
  unfold definiteB
  rw [decide_eq_true (show 0 ≤ p.n ∧ p.n ≤ 4000 ∧ (redL p m).length ≤ 40000 from ⟨hn.1, hn.2, hl⟩), Bool.true_and]
  refine allR_true fun q hq => ?_
  obtain ⟨i, hi, h2⟩ := (redTo_mem _).1 (ixR_mem hq : ixR (redL p m) q ∈ redL p m)
  obtain ⟨y, hd, hr, e, h3⟩ := redR_mem.1 h2
  have hp := rule_parts (ruleE_at hv hi)
  rw [e]
  rcases h3 with ⟨hc, a, h4, h5, rfl⟩ | ⟨hc, rfl⟩
  · obtain ⟨j, hj, e2⟩ := mem_ix.1 h4
    have := inc_pos hp.1 hj
    exact red_def (bodyW_valid hv i hi) hp.2 hr (inc_one (by omega)) (by simp)
  · have := allR_get hf i hi
    rw [hc, Bool.false_or, decide_eq_true_eq] at this
    exact red_def (bodyW_valid hv i hi) hp.2 hr hp.1 this
theorem models_head {p : GP} {m : List Int} (hM : modelsB p m = true) (hf : flatP p = true) {i : Nat} (hi : i < p.rules.length) (hb : bodyT (ixR p.rules i) m = true) {x : Int} (hx : x ∈ (ixR p.rules i).head) (hc : (ixR p.rules i).choice = true → x ∈ m) : x ∈ m := by
  cases h1 : (ixR p.rules i).choice with
  | true => exact hc h1
  | false =>
    have h2 := allR_get hM i hi
    unfold satT at h2
    rw [h1, hb, Bool.false_or, Bool.not_true, Bool.false_or] at h2
    obtain ⟨j, hj, h3⟩ := List.any_eq_true.1 h2
    have hj := List.mem_range.1 hj
    have h3 : ix (ixR p.rules i).head j ∈ m := of_decide_eq_true h3
    have h4 := allR_get hf i hi
    rw [h1, Bool.false_or, decide_eq_true_eq] at h4
    obtain ⟨q, hq, rfl⟩ := mem_ix.1 hx
    obtain rfl : q = j := by omega
    exact h3
theorem Ints.src {w : World} {x : Value} {m : List Int} (h : Ints w x m) : _root_.Go.Src Tryz.prog 1 23 x m.length (m.map (Value.int .i64)) w := by
  obtain ⟨a, c, rfl, -, -, -, hc⟩ := h.form
  cases m with
  | nil =>
    cases a with
    | none => exact _root_.Go.Src.ofNil w Tryz.underlying23 c
    | some a => exact _root_.Go.Src.ofSlice w Tryz.underlying23 a 0 c [] (by simp) (fun j u hu => by simp at hu) (fun u hu => by simp at hu)
  | cons y m =>
    obtain ⟨b, off, rfl, -, hcc⟩ := hc (by simp)
    refine _root_.Go.Src.ofSlice w Tryz.underlying23 ⟨b, off, none⟩ _ c ((y :: m).map (Value.int .i64)) (by simp) (fun j u hu => ?_) (fun u hu => ?_)
    · have hj : j < (y :: m).length := by have := (List.getElem?_eq_some_iff.1 hu).1; simpa using this
      have hadd : (⟨b, off, none⟩ : Addr).add j = ⟨b, off + j, none⟩ := by unfold Addr.add; split <;> simp_all
      rw [hadd, hcc j hj, ← hu, map_ix _ j hj]
    · obtain ⟨z, -, rfl⟩ := List.mem_map.1 hu
      simp [Value.oneCell']
theorem run_appendQs (base : Nat) (T ty : TypeId) (hT : Tryz.prog.underlying T = some (.slice 3)) (hTT : T = 23) (w : World) (v : Value) (l : List Int) (h : QRow base w v l) (x : Value) (m : List Int) (hx : Ints w x m)
    (hlen : (l.length + m.length) * 8 ≤ 140737488351232) (hbase : base ≤ w.heap.size) :
    ∃ v' w', (Builtin.append_ #[T, T] ty #[v, x]).run Tryz.prog w = .ok v' w' ∧ QRow base w' v' (l ++ m) ∧ w.grownBy w' v.ownBlock ∧ (v'.ownBlock = v.ownBlock ∨ v'.ownBlock = some w.heap.size) := by
  subst hTT
  have hi := infoI
  obtain ⟨i, hi, he⟩ := Option.map_eq_some_iff.1 hi
  simp only [Prod.mk.injEq] at he
  obtain ⟨hz, hs, hby⟩ := he
  have hsrc := hx.src
  have hsrc' : _root_.Go.Src Tryz.prog i.size 23 x m.length (m.map (Value.int .i64)) w := by rw [hs]; exact hsrc
  have hfit := h.1.app hx.2
  have zc : ∀ n, (Builtin.zeroCells (Value.int .i64 0).cells n).size = n := fun n => by simp [Builtin.zeroCells, Value.cells]
  have grow : ∀ (cur : Array Value) (cap : Nat), cur.size = cap → cap ≤ maxLen → l.length + m.length ≤ cap → (∀ i, i < l.length → cur[i]? = some (.int .i64 (ix l i))) → (∀ i, i < m.length → cur[l.length + i]? = some (.int .i64 (ix m i))) →
      QRow base (w.drew.alloc (.cells cur 3)) (.slice (some ⟨w.heap.size, 0, none⟩) (l.length + m.length) cap) (l ++ m) ∧ ∀ row, w.grownBy (w.drew.alloc (.cells cur 3)) row := by
    intro cur cap h1 h2 h3 h4 h5
    refine ⟨⟨hfit, .inr ⟨w.heap.size, 0, cap, cur, by simp, hbase, heap_alloc_new w.drew _, by simpa using h3, h2, by omega, fun j hj => ?_⟩⟩, fun row => ⟨rfl, rfl, rfl, by simp, fun k hk _ => Below.heap_alloc w.drew _ _ hk⟩⟩
    simp only [List.length_append] at hj
    rw [ix_app, Nat.zero_add]
    split
    · rename_i hlt; exact h4 j hlt
    · have := h5 (j - l.length) (by omega)
      rw [show l.length + (j - l.length) = j by omega] at this
      exact this
  have growAt : ∀ (b0 : Option Addr) (cap : Nat) (olds : List Value), (Builtin.firstCells i.size l.length (.slice b0 l.length cap)).run Tryz.prog w.drew = .ok olds.toArray w.drew → olds = (List.range l.length).map (fun i => Value.int .i64 (ix l i)) → cap < l.length + m.length →
      ∃ v' w', (Builtin.append_ #[23, 23] ty #[.slice b0 l.length cap, x]).run Tryz.prog w = .ok v' w' ∧ QRow base w' v' (l ++ m) ∧ (∀ row, w.grownBy w' row) ∧ v'.ownBlock = some w.heap.size := by
    intro b0 cap olds hold holds hlt
    have hr := run_append_grow_src (P := Tryz.prog) w 23 23 ty 3 i _ hT hi hz b0 l.length cap olds hold x m.length _ hsrc' hlt (by omega) (growslice_fits hlt (by rw [hby]; omega))
    have hge := grownCap_ge w (l.length + m.length) cap 3
    have hlo : olds.length = l.length := by rw [holds]; simp
    obtain ⟨q1, q2⟩ := grow ((olds ++ m.map (Value.int .i64)).toArray ++ Builtin.zeroCells (Value.int .i64 0).cells (grownCap w (l.length + m.length) cap 3 - (l.length + m.length))) (grownCap w (l.length + m.length) cap 3)
      (by simp only [Array.size_append, List.size_toArray, List.length_append, List.length_map, hlo, zc]; omega) (grownCap_le_maxLen w (l.length + m.length) cap 3 (by unfold maxLen; omega)) hge
      (fun j hj => by
        rw [Array.getElem?_append_left (by simp; omega), List.getElem?_toArray, List.getElem?_append_left (by omega), holds]
        simp [hj])
      (fun j hj => by
        rw [Array.getElem?_append_left (by simp; omega), List.getElem?_toArray, List.getElem?_append_right (by omega), hlo, Nat.add_sub_cancel_left]
        exact map_ix m j hj)
    exact ⟨_, _, hr, q1, q2, rfl⟩
  rcases h.2 with ⟨rfl, rfl⟩ | ⟨g, off, cap, cur, rfl, hbg, hg, hnc, hcm, hcs, hcell⟩
  · cases m with
    | nil =>
      refine ⟨.slice none 0 0, w, ?_, QRow.nil _ _, ⟨rfl, rfl, rfl, Nat.le_refl _, fun _ _ _ => rfl⟩, .inl rfl⟩
      have h0 : (Builtin.firstCells i.size 0 x).run Tryz.prog w = .ok #[] w := hsrc'.cells
      simp [Builtin.append_, run_underlying hT, sizeOf, typeInfo, hi, hsrc'.len, h0]
    | cons y m =>
      obtain ⟨v', w', h1, h2, h3, h4⟩ := growAt none 0 [] (by exact run_firstCells_none (P := Tryz.prog) w.drew i.size 0 0 0) rfl (by simp)
      exact ⟨v', w', h1, h2, h3 _, .inr h4⟩
  · by_cases hroom : l.length + m.length ≤ cap
    · have hst := run_storeCells_at Tryz.prog g (off + l.length) 3 (m.map (Value.int .i64)) 0 cur w hg (by simp only [List.length_map]; omega) (by simp [Value.oneCell'])
      simp only [Nat.add_zero, List.length_map] at hst
      refine ⟨.slice (some ⟨g, off, none⟩) (l.length + m.length) cap, w.setRow g (cur.toList.take (off + l.length) ++ m.map (Value.int .i64) ++ cur.toList.drop (off + l.length + m.length)).toArray, ?_, ⟨hfit, .inr ⟨g, off, cap, (cur.toList.take (off + l.length) ++ m.map (Value.int .i64) ++ cur.toList.drop (off + l.length + m.length)).toArray, by simp, hbg, setRow_heap w g cur _ 3 _ hg, by simpa using hroom, hcm, ?_, fun j hj => ?_⟩⟩, ⟨rfl, rfl, rfl, by simp, fun k _ hk => setRow_other w g k _ (fun e => hk (by simp [Value.ownBlock, e]))⟩, .inl rfl⟩
      · have hadd : (⟨g, off, none⟩ : Addr).add (l.length * i.size) = ⟨g, off + l.length, none⟩ := by rw [hs]; unfold Addr.add; split <;> simp_all
        simp [Builtin.append_, run_underlying hT, sizeOf, typeInfo, hi, hsrc'.len, hroom, hsrc'.cells, hadd, hst]
      · simp only [List.size_toArray, List.length_append, List.length_take, List.length_drop, Array.length_toList, List.length_map]
        omega
      · simp only [List.length_append] at hj
        rw [ix_app]
        split
        · rename_i hlt
          rw [← hcell j hlt]
          simp only [List.getElem?_toArray, List.append_assoc]
          rw [List.getElem?_append_left (by simp; omega), List.getElem?_take_of_lt (by omega)]
          simp
        · simp only [List.getElem?_toArray, List.append_assoc]
          rw [List.getElem?_append_right (by simp; omega)]
          have : min (off + l.length) cur.size = off + l.length := by omega
          simp only [List.length_take, Array.length_toList, this]
          rw [List.getElem?_append_left (by simp; omega), show off + j - (off + l.length) = j - l.length by omega]
          exact map_ix m _ (by omega)
    · have holds : ∀ j u, ((List.range l.length).map (fun i => Value.int .i64 (ix l i)))[j]? = some u → w.drew.cell? ((⟨g, off, none⟩ : Addr).add j) = some u := by
        intro j u hu
        have hadd : (⟨g, off, none⟩ : Addr).add j = ⟨g, off + j, none⟩ := by unfold Addr.add; split <;> simp_all
        have hj : j < l.length := by
          have := (List.getElem?_eq_some_iff.1 hu).1; simpa using this
        rw [hadd]
        show w.cell? _ = _
        rw [cell_of_row w g (off + j) cur 3 (0, 0) hg, hcell j hj]
        simpa [hj] using hu
      obtain ⟨v', w', h1, h2, h3, h4⟩ := growAt (some ⟨g, off, none⟩) cap _ (run_firstCells_some (P := Tryz.prog) w.drew i.size l.length ⟨g, off, none⟩ l.length cap _ (by rw [hs]; simp) holds) rfl (by omega)
      exact ⟨v', w', h1, h2, h3 _, .inr h4⟩
theorem and_one_i64 (x : Int) : Go.bits .and .i64 x 1 = x % 2 := by
  unfold Go.bits
  simp only [BitVec.toNat_and, BitVec.toNat_ofInt]
  have e : ((1 : Int) % ((2 ^ IntKind.i64.bits : Nat) : Int)).toNat = 1 := by decide
  rw [e, Nat.and_one_is_mod]
  have e2 : ((2 ^ IntKind.i64.bits : Nat) : Int) = 18446744073709551616 := by decide
  rw [e2, IntKind.wrap_i64]
  omega
theorem bit_test {bits : Int} {k : Nat} : (Go.bits .and .i64 (bits / 2 ^ k) 1 == 1) = bitAt bits k := by
  rw [and_one_i64]
  unfold bitAt
  rw [Bool.eq_iff_iff, beq_iff_eq, decide_eq_true_eq]
set_option maxHeartbeats 1000000 in
theorem idxR_disj (v : Value) (l : List GR) (w : World) (h : RulesIs w v l) (g : Nat → Bool) 
    (hg : ∀ w', Below w.heap.size w w' → ∀ j, j < l.length → ∀ u, RuleIs w' u (ixR l j) → Calls Tryz.prog 135 #[u] w' fun e w'' => e = .returned (.bool (g j)) ∧ Below w'.heap.size w' w'') :
    Calls Tryz.prog 52 #[v, .func (.func 135) #[] #[]] w fun e w' => ∃ r, e = .returned (.int .i64 r) ∧ IxP l.length g r ∧ Below w.heap.size w w' := by
  obtain ⟨a1, c1, rfl, -, hl1, -, hcell⟩ := h.form
  have HG := Lib.hid hg
  clear h hg
  go_enter Tryz.func52, Tryz.ntmps52
  go_wp2
  go_loopw [8] (fun i wx => IxR l.length g w i wx) (fun i _ => l.length - (intOf i).toNat)
  case atStart => exact ⟨0, by omega, rfl, fun j hj => absurd hj (Nat.not_lt_zero _), Below.refl _ _⟩
  case round =>
    obtain ⟨k, hk, rfl, hall, hb⟩ := hrel
    have HA := Lib.hid hall
    clear hall
    by_cases hlt : k < l.length
    · obtain ⟨b, off, rfl, hbl, hc⟩ := hcell (by omega)
      obtain ⟨vh, vb, vw, ⟨k0, k1, k2, k3, k4, k5⟩, hsl⟩ := hc k hlt
      have hbr := hsl.below hb
      have hk0 := (bcell hb _ _ hbl).trans k0
      have hk1 := (bcell hb _ _ hbl).trans k1
      have hk2 := (bcell hb _ _ hbl).trans k2
      have hk3 := (bcell hb _ _ hbl).trans k3
      have hk4 := (bcell hb _ _ hbl).trans k4
      have hk5 := (bcell hb _ _ hbl).trans k5
      have HRU : Hid (RuleIs wr (.agg #[.bool (ixR l k).choice, vh, .bool (ixR l k).sum, .int .i64 (ixR l k).bound, vb, vw]) (ixR l k)) := Lib.hid ⟨vh, vb, vw, rfl, hbr⟩
      clear hc hcell k0 k1 k2 k3 k4 k5 hsl hbr
      cases g1 : g k with
      | true =>
        have HK : Hid (_ = true) := Lib.hid g1
        have HC := Lib.hid (HG.out _ hb k hlt _ HRU.out)
        rw [g1] at HC
        clear g1
        go_wp2_with (go_at_call 135; refine (HC.out).mono ?_; rintro e w1 ⟨rfl, hb1⟩)
        go_ret
        exact ⟨_, rfl, .inr ⟨k, hlt, rfl, HK.out, HA.out⟩, bon hb hb1⟩
      | false =>
        have HN := Lib.hid (lt_succ_all HA.out g1)
        have HC := Lib.hid (HG.out _ hb k hlt _ HRU.out)
        rw [g1] at HC
        clear g1
        go_wp2_with (go_at_call 135; refine (HC.out).mono ?_; rintro e w1 ⟨rfl, hb1⟩)
        first
          | (go_roundw
             case rel => (exact ⟨k + 1, by omega, by go_num, HN.out, bon hb hb1⟩)
             case measure => (simp [intOf]; omega))
          | (refine ⟨?_, ?_⟩
             · (exact ⟨k + 1, by omega, by go_num, HN.out, bon hb hb1⟩)
             · (simp [intOf]; omega))
    · have HN : Hid (∀ j, j < l.length → g j = false) := Lib.hid (fun j hj => HA.out j (by omega))
      go_wp2
      go_ret
      exact ⟨_, rfl, .inl ⟨rfl, HN.out⟩, hb⟩
set_option maxHeartbeats 1000000 in
theorem ctnR_disj (v : Value) (l : List GR) (w : World) (h : RulesIs w v l) (g : Nat → Bool) 
    (hg : ∀ w', Below w.heap.size w w' → ∀ j, j < l.length → ∀ u, RuleIs w' u (ixR l j) → Calls Tryz.prog 135 #[u] w' fun e w'' => e = .returned (.bool (g j)) ∧ Below w'.heap.size w' w'') :
    Calls Tryz.prog 97 #[v, .func (.func 135) #[] #[]] w fun e w' => e = .returned (.bool (anyR l.length g)) ∧ Below w.heap.size w w' := by
  have HI := Lib.hid (idxR_disj v l w h g  hg)
  obtain ⟨a1, c1, rfl, -⟩ := h.form
  clear h hg
  go_enter Tryz.func97, Tryz.ntmps97
  go_wp2_with (go_at_call 52; refine (HI.out).mono ?_; rintro e w1 ⟨r, rfl, hr, hb1⟩; have HR := Lib.hid hr; clear hr)
  go_ret
  exact ⟨ret_bool HR.out.any, hb1⟩
def disjAt (r : GR) : Bool := !r.choice && decide (1 < r.head.length)
set_option maxHeartbeats 1000000 in
theorem disjC_any (v : Value) (r : GR) (w : World) (h : RuleIs w v r) :
    Calls Tryz.prog 135 #[v] w fun e w' => e = .returned (.bool (disjAt r)) ∧ Below w.heap.size w w' := by
  obtain ⟨vh, vb, vw, rfl, hsl⟩ := h
  obtain ⟨a1, c1, rfl, -, hl1, -, -⟩ := hsl.head.form
  have hal := bal (Below.refl w.heap.size w) (.cells #[.bool r.choice, .slice a1 r.head.length c1, .bool r.sum, .int .i64 r.bound, vb, vw] 60)
  have HU : Hid (disjAt r = (!r.choice && decide (1 < r.head.length))) := Lib.hid rfl
  clear hsl
  cases h2 : r.choice with
  | true =>
    rw [h2] at HU hal
    go_enter Tryz.func135, Tryz.ntmps135
    go_wp2
    go_ret
    exact ⟨ret_bool (by rw [HU.out]; rfl), hal⟩
  | false =>
    rw [h2] at HU hal
    by_cases h3 : 1 < r.head.length
    · go_enter Tryz.func135, Tryz.ntmps135
      go_wp2
      go_ret
      exact ⟨ret_bool (by rw [HU.out, decide_eq_true h3]; first | rfl | (simp; omega)), hal⟩
    · go_enter Tryz.func135, Tryz.ntmps135
      go_wp2
      go_ret
      exact ⟨ret_bool (by rw [HU.out, decide_eq_false h3]; first | rfl | (simp; omega)), hal⟩
def disjB (p : GP) : Bool := anyR p.rules.length (fun i => disjAt (ixR p.rules i))
set_option maxHeartbeats 1000000 in
theorem disj_any (v : Value) (p : GP) (w : World) (h : ProgIs w v p) :
    Calls Tryz.prog 89 #[v] w fun e w' => e = .returned (.bool (disjB p)) ∧ Below w.heap.size w w' := by
  obtain ⟨vn, vs, vr, vm, rfl, hps⟩ := h
  obtain ⟨a1, c1, rfl, -, hl1, -⟩ := hps.rules.form
  have hal := bal (Below.refl w.heap.size w) (.cells #[.int .i64 p.n, vn, vs, .slice a1 p.rules.length c1, vm] 27)
  have HR := Lib.hid (hps.rules.below hal)
  have HAL := Lib.hid hal
  clear hps hal
  go_enter Tryz.func89, Tryz.ntmps89
  go_wp2_with (go_at_call 97; (with_reducible refine (ctnR_disj _ p.rules _ HR.out (fun i => disjAt (ixR p.rules i)) (fun w' hb j _ u hu => disjC_any u _ w' hu)).mono ?_); rintro e w1 ⟨rfl, hb1⟩)
  go_ret
  exact ⟨rfl, bon HAL.out hb1⟩
attribute [local go_sem] Oper.semAt_some
def suw {w : World} (l : List (SupW w)) : List SU := l.map (·.1.2)
end Go.Proofs.YtfajkmmmmmfhiaaGreatDoor
namespace Go.Proofs.YtfajkmmmmmfhiaaGreatDoor
open Go.RowKit
theorem wpListIn_appendQs {F : Fence} {n : Nat} {ops : Array Oper} {rest : List Oper} {o : Oper} {a : Act} {w : World} {Q : Exit → Act → World → Prop} (hgd : o.guard = none) (s x : Operand)
    (ho : o.op = .call { callee := .builtin .append, args := #[s, x], argTypes := #[23, 23] }) (base : Nat) (v y : Value) (l m : List Int) (hs : a.eval s = v) (hx : a.eval x = y) (h : QRow base w v l) (hy : Ints w y m)
    (hlen : (l.length + m.length) * 8 ≤ 140737488351232) (hbase : base ≤ w.heap.size)
    (hK : ∀ v' w', QRow base w' v' (l ++ m) → w.grownBy w' v.ownBlock → (v'.ownBlock = v.ownBlock ∨ v'.ownBlock = some w.heap.size) → wpListIn F n Tryz.prog ops Q rest (a.put o.dst v') w') : wpListIn F n Tryz.prog ops Q (o :: rest) a w := by
  refine wpListIn_plain hgd fun K hK' => ?_
  obtain ⟨v', w', hr, h2, h3, h4⟩ := run_appendQs base 23 o.type Tryz.underlying23 rfl w v l h y m hy hlen hbase
  unfold Oper.wpIn
  refine ⟨by simp [Oper.about, ho, resolve, Target.leads, Sem.run_pure], ?_⟩
  rw [Oper.semAt_plain F _ _ (by rw [ho]; intro c hc'; cases hc')]
  simp [execOp, ho, resolve, invoke, builtin, hs, hx, hr, Result.andThen]
  exact hK' _ _ (hK v' w' h2 h3 h4)
theorem QRow.ownR {B : Nat} {w w' : World} {v : Value} {l : List Int} {row : Option Nat} (h : QRow B w v l) (hg : w.grownBy w' row) (hr : ∀ r, row = some r → ∃ o : Obj, w.heap[r]? = some o ∧ o.isCells = false) : QRow B w' v l := by
  rcases h.2 with ⟨rfl, e⟩ | ⟨g, off, cap, cur, rfl, hb, hgg, h1, h2, h3, h4⟩
  · exact ⟨h.1, .inl ⟨rfl, e⟩⟩
  · refine h.kept fun i _ hi e => hg.block i hi fun e2 => ?_
    simp only [Value.ownBlock, Option.some.injEq] at e
    subst e
    obtain ⟨o, ho, hc⟩ := hr _ e2.symm
    rw [hgg] at ho
    cases ho
    cases hc
theorem MkI.ownR {B n6 : Nat} {a : List Int} {x0 : Int} {w1 : World} (hB : w1.heap.size ≤ B) {wi : World} : OwnFrom B (fun (pre : List (SupW wi)) W => MkI a x0 w1 n6 (suw pre) W) := fun pre X Y row hs hg hrow => by
  have hr : ∀ r, row = some r → ∃ o : Obj, X.heap[r]? = some o ∧ o.isCells = false := fun r e => (hrow r e).2
  obtain ⟨v, h1, h2, h3, h4, h5, h6⟩ := hs
  exact ⟨v, blk_own _ _ _ () X Y row h1 hg hr, h2.ownR hg hr, h3.grown hg h3.size (fun k e => by have := (hrow k e).1; omega), h4, h5, Nat.le_trans h6 hg.size⟩
end Go.Proofs.YtfajkmmmmmfhiaaGreatDoor
namespace Go.Proofs.YtfajkmmmmmfhiaaGreatDoor
theorem any_ix (l : List Int) (f : Int → Bool) : anyR l.length (fun j => f (ix l j)) = l.any f := by
  rw [Bool.eq_iff_iff]
  constructor
  · intro h
    unfold anyR at h
    obtain ⟨j, hj, hf⟩ := List.any_eq_true.1 h
    exact List.any_eq_true.2 ⟨_, ix_mem (List.mem_range.1 hj), hf⟩
  · intro h
    obtain ⟨x, hx, hf⟩ := List.any_eq_true.1 h
    obtain ⟨j, hj, rfl⟩ := mem_ix.1 hx
    exact anyR_true j hj hf
end Go.Proofs.YtfajkmmmmmfhiaaGreatDoor
namespace Go.Proofs.YtfajkmmmmmfhiaaGreatDoor
def ClosedM (p : GP) (m T : List Int) : Prop := ∀ i, i < p.rules.length → avT T m (ixR p.rules i) = true →
  ((ixR p.rules i).choice = true → ∀ x ∈ (ixR p.rules i).head, x ∈ m → x ∈ T) ∧ ((ixR p.rules i).choice = false → ∃ x ∈ (ixR p.rules i).head, x ∈ T)
structure StabD (p : GP) (m : List Int) : Prop where
  model : modelsB p m = true
  least : ∀ T, (∀ x ∈ T, x ∈ m) → ClosedM p m T → ∀ x ∈ m, x ∈ T
theorem models_ex {p : GP} {m : List Int} (hM : modelsB p m = true) {i : Nat} (hi : i < p.rules.length) (hb : bodyT (ixR p.rules i) m = true) (hc : (ixR p.rules i).choice = false) : ∃ x ∈ (ixR p.rules i).head, x ∈ m := by
  have h2 := allR_get hM i hi
  unfold satT at h2
  rw [hc, hb, Bool.false_or, Bool.not_true, Bool.false_or] at h2
  obtain ⟨j, hj, h3⟩ := List.any_eq_true.1 h2
  exact ⟨_, ix_mem (List.mem_range.1 hj), of_decide_eq_true h3⟩
end Go.Proofs.YtfajkmmmmmfhiaaGreatDoor
namespace Go.Proofs.YtfajkmmmmmfhiaaGreatDoor
open Go.RowKit
theorem val_stable {p : GP} {m : List Int} {x : XP} (hv : validE p = 0) (hmod : modelsB p m = true) (h : ValX p m x) (hr : x.rest = []) : StabD p m := by
  refine ⟨hmod, fun T hT hc => ?_⟩
  have key : ∀ n : Nat, ∀ y ∈ x.whys, y.level.toNat ≤ n → y.atom ∈ T := by
    intro n
    induction n with
    | zero => intro y hy hl; have := h.lev y hy; omega
    | succ n ih =>
      intro y hy hl
      obtain ⟨i, -, hi, hd⟩ := h.der y hy
      have hd2 := derT_mono (T' := T) hv (fun z hz => by
        unfold lowY at hz
        obtain ⟨z2, hz2, rfl⟩ := List.mem_map.1 hz
        obtain ⟨hz3, hz4⟩ := List.mem_filter.1 hz2
        have := of_decide_eq_true hz4
        have := h.lev z2 hz3
        exact ih z2 hz3 (by omega)) hi hd
      unfold derT soleB at hd2
      simp only [Bool.and_eq_true, decide_eq_true_eq, Bool.or_eq_true, Bool.not_eq_true'] at hd2
      obtain ⟨hh, hs, ha⟩ := hd2
      obtain ⟨c1, c2⟩ := hc i hi ha
      have hym : y.atom ∈ m := (h.part _).2 (.inr (List.mem_map.2 ⟨y, hy, rfl⟩))
      cases hch : (ixR p.rules i).choice with
      | true => exact c1 hch _ hh hym
      | false =>
        obtain ⟨z, hz, hzT⟩ := c2 hch
        rw [hch] at hs
        have hs := hs.resolve_left Bool.false_ne_true
        obtain ⟨j, hj, rfl⟩ := mem_ix.1 hz
        have := anyR_not hs j hj
        rw [decide_eq_true (hT _ hzT), Bool.and_true, decide_eq_false_iff_not, Decidable.not_not] at this
        rw [← this]; exact hzT
  intro a ha
  rcases (h.part a).1 ha with h1 | h1
  · rw [hr] at h1; cases h1
  · obtain ⟨y, hy, rfl⟩ := List.mem_map.1 h1
    exact key _ y hy (Nat.le_refl _)
theorem sound_their {p : GP} {m : List Int} {x : XP} (hv : validE p = 0) (hm : setQ p.n m = true) (hmod : modelsB p m = true) (hr : x.rest = []) (h : chkX p m x = true) : StabD p m :=
  val_stable hv hmod (chk_val hv hm h) hr
theorem sound_own {p : GP} {m : List Int} (hv : validE p = 0) (hm : setQ p.n m = true) (hmod : modelsB p m = true) (hr : (explX p m).rest = []) : StabD p m :=
  val_stable hv hmod (chk_val hv hm (expl_valid hv hm)) hr
section
variable {v vset vx : Value} {p : GP} {m : List Int} {x : XP} {w : World}
theorem check_no (hE : xE p m = 410) (h : ProgIs w v p) (hm : Ints w vset m) (hx : ExplIs w vx x) (hl : x.whys.length ≤ 500) :
    Calls Tryz.prog 15 #[v, vset, vx] w fun e w' => e = .returned (.tuple #[.bool false, .int .i64 410]) ∧ Below w.heap.size w w' := by
  have := checkX_any v vset vx p m x w h hm hx hl
  rw [hE] at this
  simpa using this
end
def small20B (p : GP) : Bool := few17B p && decide (p.n ≤ 6) && decide (validE p = 0)
set_option maxHeartbeats 4000000 in
set_option maxRecDepth 100000 in
theorem small20_any (v : Value) (p : GP) (w : World) (h : ProgIs w v p) :
    Calls Tryz.prog 40 #[v] w fun e w' => e = .returned (.bool (small20B p)) ∧ Below w.heap.size w w' := by
  have h0 := h
  obtain ⟨vn, vs, vr, vm, rfl, hps⟩ := h
  have hpn := hps.n
  obtain ⟨a1, c1, rfl, -, hl1, -, -⟩ := hps.rules.form
  have hal := bal (Below.refl w.heap.size w) (.cells #[.int .i64 p.n, vn, vs, .slice a1 p.rules.length c1, vm] 27)
  have HB := Lib.hid (Blk.new w [.int .i64 p.n, vn, vs, .slice a1 p.rules.length c1, vm] 27)
  have HP := Lib.hid (h0.below hal)
  unfold InI at hpn
  clear h0 hps
  go_enter Tryz.func40, Tryz.ntmps40
  go_upto_region 1 with fail
  have kx := HB.out.cell
  have hz := HB.out.lt
  have HAL := Lib.hid hal
  clear hal
  generalize w.alloc (.cells #[.int .i64 p.n, vn, vs, .slice a1 p.rules.length c1, vm] 27) = W at *
  have HS : Hid (small20B p = (few17B p && decide (p.n ≤ 6) && decide (validE p = 0))) := Lib.hid rfl
  cases hf : few17B p with
  | false =>
    have HFE := Lib.hid hf
    rw [hf] at HS
    have HE := HS.out
    simp only [Bool.false_and] at HE
    have HE := Lib.hid HE
    clear hf
    go_wp2_with (first | (go_at_call 11; (with_reducible refine (few17_any _ p _ HP.out).mono ?_); rintro e w1 ⟨h1, hb1⟩; rw [HFE.out] at h1; subst h1; have HB1 := Lib.hid (bon HAL.out hb1); have HP1 := Lib.hid (HP.out.below hb1); have kx1 := (HB.out.below hb1).cell; clear hb1) | (go_at_call 27; (with_reducible refine (valid_any _ p w1 HP1.out).mono ?_); rintro e w2 ⟨rfl, hb2⟩; have HB2 := Lib.hid (bon HB1.out hb2); clear hb2))
    go_ret
    first | exact ⟨rfl, HB2.out⟩ | exact ⟨rfl, HB1.out⟩ | exact ⟨ret_bool HE.out.symm, HB2.out⟩ | exact ⟨ret_bool HE.out.symm, HB1.out⟩
  | true =>
    have HFE := Lib.hid hf
    rw [hf] at HS
    clear hf
    by_cases h6 : p.n ≤ 6
    · by_cases hv : validE p = 0
      · have HE := HS.out
        simp only [h6, hv, decide_true, Bool.true_and] at HE
        have HE := Lib.hid HE
        have hve : (validE p == 0) = true := by simp [hv]
        clear hv
        go_wp2_with (first | (go_at_call 11; (with_reducible refine (few17_any _ p _ HP.out).mono ?_); rintro e w1 ⟨h1, hb1⟩; rw [HFE.out] at h1; subst h1; have HB1 := Lib.hid (bon HAL.out hb1); have HP1 := Lib.hid (HP.out.below hb1); have kx1 := (HB.out.below hb1).cell; clear hb1) | (go_at_call 27; (with_reducible refine (valid_any _ p w1 HP1.out).mono ?_); rintro e w2 ⟨rfl, hb2⟩; have HB2 := Lib.hid (bon HB1.out hb2); clear hb2))
        go_ret
        first | exact ⟨rfl, HB2.out⟩ | exact ⟨rfl, HB1.out⟩ | exact ⟨ret_bool HE.out.symm, HB2.out⟩ | exact ⟨ret_bool HE.out.symm, HB1.out⟩
      · have HE := HS.out
        simp only [h6, hv, decide_true, decide_false, Bool.and_false] at HE
        have HE := Lib.hid HE
        have hve : (validE p == 0) = false := by simp [hv]
        clear hv
        go_wp2_with (first | (go_at_call 11; (with_reducible refine (few17_any _ p _ HP.out).mono ?_); rintro e w1 ⟨h1, hb1⟩; rw [HFE.out] at h1; subst h1; have HB1 := Lib.hid (bon HAL.out hb1); have HP1 := Lib.hid (HP.out.below hb1); have kx1 := (HB.out.below hb1).cell; clear hb1) | (go_at_call 27; (with_reducible refine (valid_any _ p w1 HP1.out).mono ?_); rintro e w2 ⟨rfl, hb2⟩; have HB2 := Lib.hid (bon HB1.out hb2); clear hb2))
        go_ret
        first | exact ⟨rfl, HB2.out⟩ | exact ⟨rfl, HB1.out⟩ | exact ⟨ret_bool HE.out.symm, HB2.out⟩ | exact ⟨ret_bool HE.out.symm, HB1.out⟩
    · have HE := HS.out
      simp only [h6, decide_false, Bool.and_false, Bool.false_and] at HE
      have HE := Lib.hid HE
      go_wp2_with (first | (go_at_call 11; (with_reducible refine (few17_any _ p _ HP.out).mono ?_); rintro e w1 ⟨h1, hb1⟩; rw [HFE.out] at h1; subst h1; have HB1 := Lib.hid (bon HAL.out hb1); have HP1 := Lib.hid (HP.out.below hb1); have kx1 := (HB.out.below hb1).cell; clear hb1) | (go_at_call 27; (with_reducible refine (valid_any _ p w1 HP1.out).mono ?_); rintro e w2 ⟨rfl, hb2⟩; have HB2 := Lib.hid (bon HB1.out hb2); clear hb2))
      go_ret
      first | exact ⟨rfl, HB2.out⟩ | exact ⟨rfl, HB1.out⟩ | exact ⟨ret_bool HE.out.symm, HB2.out⟩ | exact ⟨ret_bool HE.out.symm, HB1.out⟩
theorem small20_parts {p : GP} (h : small20B p = true) : few17B p = true ∧ p.n ≤ 6 ∧ validE p = 0 := by
  unfold small20B at h
  simp only [Bool.and_eq_true, decide_eq_true_eq] at h
  exact ⟨h.1.1, h.1.2, h.2⟩
end Go.Proofs.YtfajkmmmmmfhiaaGreatDoor
namespace Go.Proofs.YtfajkmmmmmfhiaaGreatDoor
theorem stabD_flat {p : GP} {m M : List Int} (hv : validE p = 0) (hf : flatP p = true) (hm : setQ p.n m = true) (hM : IsLeast (redL p m) M) (hs : M.Pairwise (· < ·)) : (modelsB p m && decide (M = m)) = true ↔ StabD p m := by
  have hB := bodyW_valid hv
  rw [Bool.and_eq_true, decide_eq_true_eq]
  constructor
  · rintro ⟨hmod, rfl⟩
    refine ⟨hmod, fun T hT hc x hx => hM.least x hx T ((closed_red hB).2 fun i hi ha y hy hch => ?_)⟩
    obtain ⟨c1, c2⟩ := hc i hi ha
    cases hcc : (ixR p.rules i).choice with
    | true => exact c1 hcc y hy (hch hcc)
    | false =>
      obtain ⟨z, hz, hzT⟩ := c2 hcc
      have h4 := allR_get hf i hi
      rw [hcc, Bool.false_or, decide_eq_true_eq] at h4
      obtain ⟨a, ha2, rfl⟩ := mem_ix.1 hy
      obtain ⟨b, hb2, rfl⟩ := mem_ix.1 hz
      obtain rfl : a = b := by omega
      exact hzT
  · intro h
    have hcl := (closed_red (T := M) hB).1 hM.closed
    have h1 : ∀ x ∈ M, x ∈ m := fun x hx => hM.least x hx m ((closed_red hB).2 fun i hi ha y hy hc => by
      rw [avT_self] at ha
      exact models_head h.model hf hi ha hy hc)
    have h2 : ClosedM p m M := fun i hi ha => by
      refine ⟨fun hch x hx hxm => hcl i hi ha x hx (fun _ => hxm), fun hch => ?_⟩
      have hb : bodyT (ixR p.rules i) m = true := by rw [← avT_self]; exact avT_mono h1 (hB i hi) ha
      obtain ⟨y, hy, -⟩ := models_ex h.model hi hb hch
      exact ⟨y, hy, hcl i hi ha y hy (fun e => by rw [hch] at e; cases e)⟩
    have h3 := h.least M h1 h2
    exact ⟨h.model, sorted_eq hs (setQ_sorted hm) fun x => ⟨h1 x, h3 x⟩⟩
theorem wsum_lhs {s : List Int} {y : GR} (hp : ∀ x ∈ y.body, 0 < x) (hs : y.sum = true) : ∀ k, k ≤ y.body.length → wsum s y k = lhsTo s y k
  | 0, _ => rfl
  | k + 1, hk => by
    have hx := hp _ (ix_mem (show k < y.body.length by omega))
    unfold wsum lhsTo wOf litT
    rw [wsum_lhs hp hs k (by omega), hs, if_pos hx]
    simp only [if_true, decide_eq_true_eq]
theorem lhsTo_le {s : List Int} {y : GR} (hs : y.sum = false) : ∀ k : Nat, lhsTo s y k ≤ k
  | 0 => by simp [lhsTo]
  | k + 1 => by
    have ih := lhsTo_le (s := s) hs k
    unfold lhsTo wOf
    rw [hs]
    split <;> simp <;> omega
theorem lhsTo_full {s : List Int} {y : GR} (hs : y.sum = false) : ∀ k : Nat, (k : Int) ≤ lhsTo s y k ↔ ∀ j, j < k → ix y.body j ∈ s
  | 0 => by simp [lhsTo]
  | k + 1 => by
    have ih := lhsTo_full (s := s) hs k
    have hle := lhsTo_le (s := s) hs k
    unfold lhsTo wOf
    rw [hs]
    constructor
    · intro h
      by_cases hx : ix y.body k ∈ s
      · rw [if_pos hx] at h
        simp only [Bool.false_eq_true, if_false] at h
        intro j hj
        by_cases e : j = k
        · subst e; exact hx
        · exact ih.1 (by push_cast at h; omega) j (by omega)
      · rw [if_neg hx] at h
        push_cast at h; omega
    · intro h
      rw [if_pos (h k (by omega))]
      have := ih.2 fun j hj => h j (by omega)
      simp only [Bool.false_eq_true, if_false]
      push_cast; omega
theorem bodyT_need {s : List Int} {y : GR} (hp : ∀ x ∈ y.body, 0 < x) : bodyT y s = true ↔ need0 y ≤ lhs s y := by
  unfold bodyT need0 lhs
  cases hs : y.sum with
  | true => rw [if_pos rfl, if_pos rfl, wsum_lhs hp hs _ (Nat.le_refl _), decide_eq_true_eq]
  | false =>
    rw [if_neg Bool.false_ne_true, if_neg Bool.false_ne_true, lhsTo_full hs]
    constructor
    · intro h j hj
      have h1 := allR_get h j hj
      unfold litT at h1
      rw [if_pos (hp _ (ix_mem hj))] at h1
      exact of_decide_eq_true h1
    · intro h
      refine allR_true fun j hj => ?_
      unfold litT
      rw [if_pos (hp _ (ix_mem hj))]
      exact decide_eq_true (h j hj)
theorem red_pos {m : List Int} {r x : GR} (h : redB m r = some x) : (∀ y ∈ x.body, 0 < y) ∧ x.choice = false := by
  unfold redB at h
  split at h
  · cases h
  · split at h
    · obtain rfl := Option.some.inj h
      exact ⟨fun y hy => (by cases hy), rfl⟩
    · obtain rfl := Option.some.inj h
      refine ⟨fun y hy => ?_, rfl⟩
      obtain ⟨z, hz, rfl⟩ := List.mem_map.1 (show y ∈ (posP r r.body.length).map (·.1) from hy)
      obtain ⟨j, hj, h1, rfl⟩ := (posP_mem _).1 hz
      exact h1
theorem satR_red {p : GP} {m s : List Int} (hv : validE p = 0) : satR (redL p m) s = true ↔ ClosedM p m s := by
  have hB := bodyW_valid hv
  have hsat : ∀ (x : GR) (hd : List Int) (i : Nat), i < p.rules.length → redB m (ixR p.rules i) = some x → (satT (withHead x hd) s = true ↔ (avT s m (ixR p.rules i) = true → ∃ y ∈ hd, y ∈ s)) := fun x hd i hi hx => by
    obtain ⟨h1, h2⟩ := red_pos hx
    have hb : bodyT (withHead x hd) s = true ↔ avT s m (ixR p.rules i) = true := by
      rw [bodyT_need (y := withHead x hd) h1, (withHead_need x hd s).1, (withHead_need x hd s).2]
      exact red_some s (hB i hi) hx
    have ha : anyR hd.length (fun j => decide (ix hd j ∈ s)) = true ↔ ∃ y ∈ hd, y ∈ s := by
      rw [any_ix hd (fun y => decide (y ∈ s)), List.any_eq_true]
      simp only [decide_eq_true_eq]
    unfold satT
    rw [show (withHead x hd).choice = false from h2, Bool.false_or, Bool.or_eq_true, ← hb, ← ha]
    constructor
    · rintro (h | h) hbt
      · rw [hbt] at h; cases h
      · exact h
    · intro h
      cases hbt : bodyT (withHead x hd) s with
      | true => exact .inr (h hbt)
      | false => exact .inl rfl
  constructor
  · intro h i hi ha
    have hmem : ∀ y ∈ redL p m, satT y s = true := fun y hy => by
      obtain ⟨q, hq, rfl⟩ := ixR_of_mem hy
      exact allR_get h q hq
    cases hr : redB m (ixR p.rules i) with
    | none => rw [red_none s hr] at ha; cases ha
    | some x =>
      refine ⟨fun hch a haH ham => ?_, fun hch => ?_⟩
      · have h1 : withHead x [a] ∈ redL p m := (redTo_mem _).2 ⟨i, hi, redR_mem.2 ⟨x, [a], hr, rfl, .inl ⟨hch, a, haH, ham, rfl⟩⟩⟩
        obtain ⟨y, hy, hys⟩ := (hsat x [a] i hi hr).1 (hmem _ h1) ha
        obtain rfl := List.mem_singleton.1 hy
        exact hys
      · have h1 : withHead x (ixR p.rules i).head ∈ redL p m := (redTo_mem _).2 ⟨i, hi, redR_mem.2 ⟨x, _, hr, rfl, .inr ⟨hch, rfl⟩⟩⟩
        exact (hsat x _ i hi hr).1 (hmem _ h1) ha
  · intro h
    refine allR_true fun q hq => ?_
    obtain ⟨i, hi, h2⟩ := (redTo_mem _).1 (ixR_mem hq : ixR (redL p m) q ∈ redL p m)
    obtain ⟨x, hd, hr, e, h3⟩ := redR_mem.1 h2
    rw [e]
    refine (hsat x hd i hi hr).2 fun ha => ?_
    obtain ⟨c1, c2⟩ := h i hi ha
    rcases h3 with ⟨hc, a, h4, h5, rfl⟩ | ⟨hc, rfl⟩
    · exact ⟨a, by simp, c1 hc a h4 h5⟩
    · exact c2 hc
theorem sbTo_mem {m : List Int} {k : Nat} {x : Int} : ∀ j, x ∈ sbTo m k j ↔ ∃ i, i < j ∧ bitAt k i = true ∧ x = ix m i
  | 0 => by simp [sbTo]
  | j + 1 => by
    have ih := sbTo_mem (m := m) (k := k) (x := x) j
    unfold sbTo
    constructor
    · intro h
      split at h
      · rename_i hb
        rcases List.mem_append.1 h with h | h
        · obtain ⟨i, h1, h2⟩ := ih.1 h; exact ⟨i, by omega, h2⟩
        · exact ⟨j, by omega, hb, by simpa using h⟩
      · obtain ⟨i, h1, h2⟩ := ih.1 h; exact ⟨i, by omega, h2⟩
    · rintro ⟨i, h1, h2, h3⟩
      by_cases e : i = j
      · subst e; rw [if_pos h2]; exact List.mem_append.2 (.inr (by simp [h3]))
      · have := ih.2 ⟨i, by omega, h2, h3⟩
        split
        · exact List.mem_append.2 (.inl this)
        · exact this
theorem sbTo_len (m : List Int) (k : Nat) : ∀ j, (sbTo m k j).length ≤ j
  | 0 => by simp [sbTo]
  | j + 1 => by
    have ih := sbTo_len m k j
    unfold sbTo
    split
    · simp; omega
    · omega
theorem sbTo_full {m : List Int} {k : Nat} : ∀ j, (sbTo m k j).length = j ↔ ∀ i, i < j → bitAt k i = true
  | 0 => by simp [sbTo]
  | j + 1 => by
    have ih := sbTo_full (m := m) (k := k) j
    have hl := sbTo_len m k j
    unfold sbTo
    constructor
    · intro h i hi
      split at h
      · rename_i hb
        rw [List.length_append, List.length_singleton] at h
        by_cases e : i = j
        · subst e; exact hb
        · exact ih.1 (by omega) i (by omega)
      · omega
    · intro h
      rw [if_pos (h j (by omega)), List.length_append, List.length_singleton, ih.2 fun i hi => h i (by omega)]
theorem sbL_mem {m : List Int} {k : Nat} {x : Int} (h : x ∈ sbL m k) : x ∈ m := by
  obtain ⟨i, hi, -, rfl⟩ := (sbTo_mem _).1 h
  exact ix_mem hi
theorem bitAt_nat (k i : Nat) : bitAt k i = Nat.testBit k i := by
  unfold bitAt
  rw [Nat.testBit_eq_decide_div_mod_eq]
  congr 1
  rw [eq_iff_iff]
  have : ((k : Int) / 2 ^ i % 2) = ((k / 2 ^ i % 2 : Nat) : Int) := by push_cast; rfl
  rw [this]
  omega
theorem bits_of (P : Nat → Bool) : ∀ n : Nat, ∃ k : Nat, k < 2 ^ n ∧ ∀ i, i < n → bitAt k i = P i
  | 0 => ⟨0, by simp, fun i hi => absurd hi (Nat.not_lt_zero _)⟩
  | n + 1 => by
    obtain ⟨k, hk, h⟩ := bits_of P n
    cases hp : P n with
    | false =>
      refine ⟨k, by rw [Nat.pow_succ]; omega, fun i hi => ?_⟩
      by_cases e : i = n
      · subst e; rw [hp, bitAt_nat, Nat.testBit_lt_two_pow hk]
      · exact h i (by omega)
    | true =>
      refine ⟨2 ^ n + k, by rw [Nat.pow_succ]; omega, fun i hi => ?_⟩
      rw [bitAt_nat]
      by_cases e : i = n
      · subst e; rw [hp, Nat.testBit_two_pow_add_eq, Nat.testBit_lt_two_pow hk]; rfl
      · rw [Nat.testBit_two_pow_add_gt (by omega), ← bitAt_nat]; exact h i (by omega)
theorem sbL_all (m : List Int) (k : Nat) (h : ∀ i, i < m.length → bitAt k i = true) {x : Int} (hx : x ∈ m) : x ∈ sbL m k := by
  obtain ⟨j, hj, rfl⟩ := mem_ix.1 hx
  exact (sbTo_mem _).2 ⟨j, hj, h j hj, rfl⟩
theorem closedM_congr {p : GP} {m S T : List Int} (h : ∀ x, x ∈ S ↔ x ∈ T) (hc : ClosedM p m S) : ClosedM p m T := fun i hi ha => by
  have e : avT S m (ixR p.rules i) = avT T m (ixR p.rules i) := by
    have hl : ∀ l, hlT S m l = hlT T m l := fun l => by
      unfold hlT
      by_cases h0 : 0 < l
      · rw [if_pos h0, if_pos h0, decide_eq_decide.2 (h l)]
      · rw [if_neg h0, if_neg h0]
    have hw : ∀ k, avW S m (ixR p.rules i) k = avW T m (ixR p.rules i) k := fun k => by
      induction k with
      | zero => rfl
      | succ k ih => unfold avW; rw [ih, hl]
    unfold avT
    rw [hw]
    split
    · rfl
    · unfold allR
      congr 1
      funext j
      exact hl _
  rw [← e] at ha
  obtain ⟨c1, c2⟩ := hc i hi ha
  exact ⟨fun hch x hx hxm => (h x).1 (c1 hch x hx hxm), fun hch => let ⟨y, hy, hyS⟩ := c2 hch; ⟨y, hy, (h y).1 hyS⟩⟩
theorem full_last {n k : Nat} (hk : k < 2 ^ n) (h : ∀ i, i < n → bitAt k i = true) : k + 1 = 2 ^ n := by
  have : k = 2 ^ n - 1 := by
    refine Nat.eq_of_testBit_eq fun i => ?_
    rw [Nat.testBit_two_pow_sub_one]
    by_cases hi : i < n
    · rw [← bitAt_nat, h i hi, decide_eq_true hi]
    · rw [decide_eq_false hi, Nat.testBit_lt_two_pow (Nat.lt_of_lt_of_le hk (Nat.pow_le_pow_right (by omega) (by omega)))]
  have := Nat.two_pow_pos n
  omega
theorem stabD_min {p : GP} {m : List Int} (hv : validE p = 0) (hms : m.Pairwise (· < ·)) (hmod : modelsB p m = true) {b : Bool} (h : MinIs (redL p m) m b) : b = true ↔ StabD p m := by
  constructor
  · rintro rfl
    rcases h with ⟨k, hk, hno, hsat, hb⟩ | ⟨-, hb⟩
    · have hlen := of_decide_eq_true hb.symm
      have hfull := (sbTo_full m.length).1 hlen
      have hlast := full_last hk hfull
      refine ⟨hmod, fun T hT hc x hx => Classical.byContradiction fun hxT => ?_⟩
      obtain ⟨j, hj, hbj⟩ := bits_of (fun i => decide (ix m i ∈ T)) m.length
      have hcl : ClosedM p m (sbL m j) := closedM_congr (fun y => by
        constructor
        · intro hy
          obtain ⟨q, hq, rfl⟩ := mem_ix.1 (hT y hy)
          exact (sbTo_mem _).2 ⟨q, hq, by rw [hbj q hq]; exact decide_eq_true hy, rfl⟩
        · intro hy
          obtain ⟨q, hq, hb2, rfl⟩ := (sbTo_mem _).1 hy
          rw [hbj q hq] at hb2
          exact of_decide_eq_true hb2) hc
      have hs := (satR_red hv).2 hcl
      have hjk : ¬ j < k := fun hlt => by rw [hno j hlt] at hs; cases hs
      obtain rfl : j = k := by omega
      obtain ⟨q, hq, rfl⟩ := mem_ix.1 hx
      have := hfull q hq
      rw [hbj q hq] at this
      exact hxT (of_decide_eq_true this)
    · cases hb
  · intro h0
    have hself : ClosedM p m m := fun i hi ha => by
      rw [avT_self] at ha
      exact ⟨fun _ x _ hxm => hxm, fun hch => models_ex hmod hi ha hch⟩
    have key : ∀ k, satR (redL p m) (sbL m k) = true → ∀ x ∈ m, x ∈ sbL m k := fun k hs => h0.least _ (fun x hx => sbL_mem hx) ((satR_red hv).1 hs)
    rcases h with ⟨k, hk, hno, hsat, rfl⟩ | ⟨hno, -⟩
    · refine decide_eq_true ?_
      by_cases hfull : ∀ i, i < m.length → bitAt k i = true
      · exact (sbTo_full _).2 hfull
      · exfalso
        refine hfull fun i hi => ?_
        obtain ⟨q, hq, hb, e⟩ := (sbTo_mem _).1 (key k hsat _ (ix_mem hi))
        have hqi : q = i := by
          rcases Nat.lt_trichotomy q i with h1 | h1 | h1
          · have := List.pairwise_iff_getElem.1 hms q i hq hi h1
            rw [← ix_get hq, ← ix_get hi] at this
            omega
          · exact h1
          · have := List.pairwise_iff_getElem.1 hms i q hi hq h1
            rw [← ix_get hq, ← ix_get hi] at this
            omega
        rw [← hqi]; exact hb
    · obtain ⟨j, hj, hbj⟩ := bits_of (fun _ => true) m.length
      have hs := (satR_red hv).2 (closedM_congr (fun x => ⟨fun hx => sbL_all m j hbj hx, fun hx => sbL_mem hx⟩) hself)
      rw [hno j hj] at hs; cases hs
end Go.Proofs.YtfajkmmmmmfhiaaGreatDoor
namespace Go.Proofs.YtfajkmmmmmfhiaaGreatDoor
theorem bodyV_rule {r : GR} {n : Int} (h : ruleE r n = 0) : BodyV r n := by
  unfold ruleE at h
  refine ⟨?_, ?_, fun hs => ?_, ?_⟩ <;> grind
theorem red_bodyV {p : GP} {m : List Int} (hv : validE p = 0) : ∀ q, q < (redL p m).length → BodyV (ixR (redL p m) q) p.n := fun q hq => by
  obtain ⟨i, hi, h2⟩ := (redTo_mem _).1 (ixR_mem hq : ixR (redL p m) q ∈ redL p m)
  obtain ⟨x, hd, hr, e, -⟩ := redR_mem.1 h2
  rw [e]
  have hW := bodyW_valid hv i hi
  have h0 := red_def (hd := []) hW (rule_parts (ruleE_at hv hi)).2 hr (by simp [increasingB, orderedB, allR]) (by simp)
  unfold defAt at h0
  simp only [Bool.and_eq_true, decide_eq_true_eq] at h0
  have h1 := bodyV_rule h0.1.1.1
  exact ⟨h1.rng, h1.ord, h1.sum, h1.bound⟩
theorem satR_any (R : List GR) (s : List Int) : (!anyR R.length fun j => !satT (ixR R j) s) = satR R s := by
  unfold satR
  cases h : allR R.length (fun q => satT (ixR R q) s) with
  | true => rw [anyR_false fun j hj => by rw [allR_get h j hj]; rfl]; rfl
  | false =>
    obtain ⟨j, hj, hf⟩ : ∃ j, j < R.length ∧ satT (ixR R j) s = false := Classical.byContradiction fun hn => by
      have : allR R.length (fun q => satT (ixR R q) s) = true := allR_true fun j hj => by
        cases e : satT (ixR R j) s with
        | true => rfl
        | false => exact absurd ⟨j, hj, e⟩ hn
      rw [h] at this; cases this
    rw [anyR_true j hj (by rw [hf]; rfl)]; rfl
end Go.Proofs.YtfajkmmmmmfhiaaGreatDoor
