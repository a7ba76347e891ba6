/- My texts Perm3, Ops, Queue, QRow, Ex0, App, Stb1, Ex1, Two, Ex2, Fw17, Aw0, Sq41, merged. -/
import Derived.Test.YtgakoainjgjimaaGreatDoorM02
import Derived.Test.YtgakoainjgjimaaGreatDoorM01
import Derived.Test.YtgakoainjgjimaaGreatDoorM00
import Derived.Test.YtgakoainjgjimaaGreatDoorProg
import Derived.WalkKit
import Derived.Lib.Hide
import Derived.Deep.QuietTactic
import Derived.BigQuiet
import Derived.WalkSpells
import Derived.Lib.SliceRun
import Derived.MapKept
import Derived.Maps.OwnSet
import Derived.Maps.OwnOps
import Derived.Deep.AppendLies
import Derived.Test.YtgakoainjgjimaaGreatDoorM03
import Derived.Test.YtgakoainjgjimaaGreatDoorM04
import Derived.Lib.Bytealg
import Derived.Test.YtgakoainjgjimaaGreatDoorM07
import Derived.Test.YtgakoainjgjimaaGreatDoorM05
import Derived.Deep.DeepCutAuto
import Derived.Laws.EntriesVeiled
import Derived.Deep.RegionWith
import Derived.Deep.OwnRows
import Derived.Test.YtgakoainjgjimaaGreatDoorM06
import Derived.RangeFuncNested
import Derived.RangeFuncBound
import Derived.RangeFuncCalls
import Derived.RangeFuncLeaves
import Derived.OwnWalkIn
import Derived.TacticsInMore
import Derived.LoopNIn
import Derived.LoopIn
import Derived.Stop.RegionWithIn
import Derived.Shelf.Abstract
import Derived.Deep.LoopGhost
import Derived.Deep.DrawnRows
import Derived.Deep.AppendSrc
import Derived.Test.YtgakoainjgjimaaGreatDoorM09
import Derived.Test.YtgakoainjgjimaaGreatDoorM11
import Derived.Test.YtgakoainjgjimaaGreatDoorM12
import Derived.Sort.QuietThIn
import Derived.Maps.RangeWalk
import Derived.Lib.SlicesCompact
import Derived.Shelf.Sort.Plain
import Derived.Shelf.Slices.CompactI
import Derived.Shelf.Slices.In.SortNone
import Derived.Shelf.Strconv.Itoa3
import Derived.Shelf.Strings.BuilderK
import Derived.Shelf.Slices.SearchI
import Derived.Shelf.Slices.Empties
import Derived.Sort.OwnSortedInts
import Derived.RangeFuncBox
import Derived.Maps.OwnIn
import Derived.Lib.RowBridge
import Derived.Test.YtgakoainjgjimaaGreatDoorM14
import Derived.Test.YtgakoainjgjimaaGreatDoorM16
import Derived.Test.YtgakoainjgjimaaGreatDoorM13
import Derived.Test.YtgakoainjgjimaaGreatDoorM10
import Derived.Test.YtgakoainjgjimaaGreatDoorM08
import Derived.Test.YtgakoainjgjimaaGreatDoorM18
import Derived.Test.YtgakoainjgjimaaGreatDoorM17
import Derived.Deep.DeepMust
import Derived.Test.YtgakoainjgjimaaGreatDoorM15
import Derived.ProofKit
import Derived.OpenShut
import Derived.ChangeArms
import Derived.SizedLaws

namespace Go.Proofs.YtgakoainjgjimaaGreatDoor
open Go.RowKit
section
variable {P : Program} {ops : Array Oper} {w0 : World} {Cl : Nat → World → Prop} {Φ : Nat → List Value → Value → Nat → Nat → World → Prop} {ism : Nat → Bool} {D : Nat → Nat → Bool} {E : Act → World → Prop} {Q : Exit → Act → World → Prop} {a : Act} {o : Oper} {rest : List Oper} {i : Nat} {F : List (Nat × (World → Prop))} {I : List (Nat × Nat)}
theorem wp_region_tail' {id : Nat} {w : World} {l : List Oper} (n : Nat) (C' : World → Prop) (Φ : Nat → List Value → Value → Nat → Nat → World → Prop) (ism : Nat → Bool) (hm : P.follows .mixedOrders = true) (hB : chk l.toArray (masks l) = true) (hT : chkTail l (masks l) n ism = true)
    (hC : ∀ w', Below w.heap.size w w' → C' w')
    (hΦ : ∀ i args v lo hi w w', Φ i args v lo hi w → Below w.heap.size w w' → Φ i args v lo hi w')
    (h : walkP P l.toArray w (fun i w' => if lateB l (dm (masks l)) n i then C' w' else ∃ e : Ext w, w' = e.world) Φ ism (dm (masks l)) (tailW P l.toArray C' Q (l.drop n)) (l.take n) 0 a [] []) : (Code.region id l.toArray true).wp P Q a w := by
  refine wp_region_tail (masks l) n C' Φ ism hm hB hT hC hΦ ?_
  refine walkP_cl (fun i w' hw' => ?_) _ 0 a [] [] h
  split at hw'
  · rename_i hl; rw [if_pos hl]; exact hw'
  · rename_i hl; rw [if_neg hl]; exact ⟨⟨w', hw'⟩, rfl⟩
end
theorem newsOf {w : World} {g : Nat} {c : List Value} {t : TypeId} (h : Blk w g c t) : ∀ j u, c[j]? = some u → w.cell? ((⟨g, 0, none⟩ : Addr).add j) = some u := by
  have := World.news_of_block (w := w) (B := g) (cs := c.toArray) (t := t) (fr := (0, 0)) h
  simpa using this
theorem ix_last (l : List Int) (x : Int) (i : Nat) (hi : i < (l ++ [x]).length) : ix (l ++ [x]) i = if i < l.length then ix l i else x := by
  simp only [List.length_append, List.length_singleton] at hi
  split
  · rename_i h; simp [ix, List.getElem?_append_left h]
  · obtain rfl : i = l.length := by omega
    simp [ix]
theorem run_appendQ (base : Nat) (T ty : TypeId) (hT : Tryz.prog.underlying T = some (.slice 3)) (w : World) (v : Value) (l : List Int) (h : QRow base w v l) (g0 c : Nat) (x : Int) (hb : Blk w g0 [.int .i64 x] 3) (hx : InI x)
    (hlen : (l.length + 1) * 8 ≤ 140737488351232) (hbase : base ≤ w.heap.size) :
    ∃ v' w', (Builtin.append_ #[T, T] ty #[v, .slice (some ⟨g0, 0, none⟩) 1 c]).run Tryz.prog w = .ok v' w' ∧ QRow base w' v' (l ++ [x]) ∧ w.grownBy w' v.ownBlock ∧ (v'.ownBlock = v.ownBlock ∨ v'.ownBlock = some w.heap.size) := by
  have hi := infoI
  obtain ⟨i, hi, he⟩ := Option.map_eq_some_iff.1 hi
  simp only [Prod.mk.injEq] at he
  obtain ⟨hz, hs, hby⟩ := he
  have hn := newsOf hb
  have hfit := h.1.push hx
  have grow : ∀ (cur : Array Value) (cap : Nat), cur.size = cap → cap ≤ maxLen → l.length + 1 ≤ cap → (∀ i, i < l.length → cur[i]? = some (.int .i64 (ix l i))) → cur[l.length]? = some (.int .i64 x) →
      QRow base (w.drew.alloc (.cells cur 3)) (.slice (some ⟨w.heap.size, 0, none⟩) (l.length + 1) cap) (l ++ [x]) ∧ ∀ row, w.grownBy (w.drew.alloc (.cells cur 3)) row := by
    intro cur cap h1 h2 h3 h4 h5
    refine ⟨⟨hfit, .inr ⟨w.heap.size, 0, cap, cur, by simp, hbase, heap_alloc_new w.drew _, by simpa using h3, h2, by omega, fun j hj => ?_⟩⟩, fun row => ⟨rfl, rfl, rfl, by simp, fun k hk _ => Below.heap_alloc w.drew _ _ hk⟩⟩
    rw [ix_last _ _ _ hj, Nat.zero_add]
    split
    · rename_i hlt; exact h4 j hlt
    · simp only [List.length_append, List.length_singleton] at hj
      obtain rfl : j = l.length := by omega
      exact h5
  have zc : ∀ n, (Builtin.zeroCells (Value.int .i64 0).cells n).size = n := fun n => by simp [Builtin.zeroCells, Value.cells]
  rcases h.2 with ⟨rfl, rfl⟩ | ⟨g, off, cap, cur, rfl, hbg, hg, hnc, hcm, hcs, hcell⟩
  · have hr := run_append_nil (P := Tryz.prog) w T ty 3 i _ hT hi hz ⟨g0, 0, none⟩ 1 c [.int .i64 x] (by rw [hs]; rfl) hn (by omega) (by omega) (by rw [hby]; omega)
    have hge := grownCap_ge w 1 0 3
    obtain ⟨q1, q2⟩ := grow (#[Value.int .i64 x] ++ Builtin.zeroCells (Value.int .i64 0).cells (grownCap w 1 0 3 - 1)) (grownCap w 1 0 3) (by simp only [Array.size_append, List.size_toArray, List.length_cons, List.length_nil, zc]; omega) (grownCap_le_maxLen w 1 0 3 (by unfold maxLen; omega)) hge (fun i hi => absurd hi (Nat.not_lt_zero _)) (by rw [Array.getElem?_append_left (by simp)]; rfl)
    exact ⟨_, _, hr, q1, q2 _, .inr rfl⟩
  · by_cases hroom : l.length + 1 ≤ cap
    · have hf := run_firstCells_some (P := Tryz.prog) w i.size 1 ⟨g0, 0, none⟩ 1 c [.int .i64 x] (by rw [hs]; rfl) hn
      have hst := run_storeCells_at Tryz.prog g (off + l.length) 3 [.int .i64 x] 0 cur w hg (by simp only [List.length_singleton]; omega) (by simp [Value.oneCell'])
      simp only [Nat.add_zero, List.length_singleton] at hst
      refine ⟨.slice (some ⟨g, off, none⟩) (l.length + 1) cap, w.setRow g (cur.toList.take (off + l.length) ++ [Value.int .i64 x] ++ cur.toList.drop (off + l.length + 1)).toArray, ?_, ⟨hfit, .inr ⟨g, off, cap, (cur.toList.take (off + l.length) ++ [Value.int .i64 x] ++ cur.toList.drop (off + l.length + 1)).toArray, by simp, hbg, setRow_heap w g cur _ 3 _ hg, by simpa using hroom, hcm, ?_, fun j hj => ?_⟩⟩, ⟨rfl, rfl, rfl, by simp, fun k _ hk => setRow_other w g k _ (fun e => hk (by simp [Value.ownBlock, e]))⟩, .inl rfl⟩
      · have hadd : (⟨g, off, none⟩ : Addr).add (l.length * i.size) = ⟨g, off + l.length, none⟩ := by rw [hs]; unfold Addr.add; split <;> simp_all
        simp [Builtin.append_, run_underlying hT, sizeOf, typeInfo, hi, Builtin.lenOf, hroom, hf, hadd, hst]
      · simp only [List.size_toArray, List.length_append, List.length_take, List.length_drop, Array.length_toList, List.length_singleton]
        omega
      · rw [ix_last _ _ _ hj]
        simp only [List.length_append, List.length_singleton] at hj
        split
        · rename_i hlt
          rw [← hcell j hlt]
          simp only [List.getElem?_toArray, List.append_assoc]
          rw [List.getElem?_append_left (by simp; omega), List.getElem?_take_of_lt (by omega)]
          simp
        · obtain rfl : j = l.length := by omega
          simp only [List.getElem?_toArray, List.append_assoc]
          rw [List.getElem?_append_right (by simp; omega)]
          have : min (off + l.length) cur.size = off + l.length := by omega
          simp [this]
    · have holds : ∀ j u, ((List.range l.length).map (fun i => Value.int .i64 (ix l i)))[j]? = some u → w.cell? ((⟨g, off, none⟩ : Addr).add j) = some u := by
        intro j u hu
        have hadd : (⟨g, off, none⟩ : Addr).add j = ⟨g, off + j, none⟩ := by unfold Addr.add; split <;> simp_all
        have hj : j < l.length := by
          have := (List.getElem?_eq_some_iff.1 hu).1; simpa using this
        rw [hadd, cell_of_row w g (off + j) cur 3 (0, 0) hg, hcell j hj]
        simpa [hj] using hu
      have hr := run_append_grow (P := Tryz.prog) w T ty 3 i _ hT hi hz ⟨g, off, none⟩ l.length cap ((List.range l.length).map (fun i => Value.int .i64 (ix l i))) (by rw [hs]; simp) holds ⟨g0, 0, none⟩ 1 c [.int .i64 x] (by rw [hs]; rfl) hn (by omega) (by omega) (growslice_fits (by omega) (by rw [hby]; omega))
      have hge := grownCap_ge w (l.length + 1) cap 3
      obtain ⟨q1, q2⟩ := grow (((List.range l.length).map (fun i => Value.int .i64 (ix l i))).toArray ++ [Value.int .i64 x].toArray ++ Builtin.zeroCells (Value.int .i64 0).cells (grownCap w (l.length + 1) cap 3 - (l.length + 1))) (grownCap w (l.length + 1) cap 3) (by simp only [Array.size_append, List.size_toArray, List.length_cons, List.length_nil, List.length_map, List.length_range, zc]; omega) (grownCap_le_maxLen w (l.length + 1) cap 3 (by unfold maxLen; omega)) hge
        (fun j hj => by rw [Array.getElem?_append_left (by simp; omega), Array.getElem?_append_left (by simp; omega)]; simp [hj]) (by rw [Array.getElem?_append_left (by simp), Array.getElem?_append_right (by simp)]; simp)
      exact ⟨_, _, hr, q1, q2 _, .inr rfl⟩
theorem wp_appendQ {o : Oper} {a : Act} {w : World} {K : Act → World → Prop} {Q : Exit → Act → World → Prop} (s x : Operand) (T : TypeId) (hT : Tryz.prog.underlying T = some (.slice 3))
    (ho : o.op = .call { callee := .builtin .append, args := #[s, x], argTypes := #[T, T] }) (base : Nat) (v : Value) (l : List Int) (k : Int) (hs : a.eval s = v) (h : QRow base w v l)
    (g0 c : Nat) (hx : a.eval x = .slice (some ⟨g0, 0, none⟩) 1 c) (hb : Blk w g0 [.int .i64 k] 3) (hk : InI k) (hlen : (l.length + 1) * 8 ≤ 140737488351232) (hbase : base ≤ w.heap.size)
    (hK : ∀ v' w', QRow base w' v' (l ++ [k]) → w.grownBy w' v.ownBlock → (v'.ownBlock = v.ownBlock ∨ v'.ownBlock = some w.heap.size) → K (a.put o.dst v') w') : o.wp Tryz.prog a w K Q := by
  obtain ⟨v', w', hr, h2, h3, h4⟩ := run_appendQ base T o.type hT w v l h g0 c k hb hk hlen hbase
  unfold Oper.wp execOp
  simp only [ho, resolve, invoke, builtin, Sem.run_bind, Sem.run_pure, Result.andThen_ok, List.map_toArray, List.map_cons, List.map_nil, hs, hx, hr]
  exact hK v' w' h2 h3 h4
theorem wpList_appendQ {ops : Array Oper} {rest : List Oper} {o : Oper} {a : Act} {w : World} {Q : Exit → Act → World → Prop} (hgd : o.guard = none) (s x : Operand) (T : TypeId) (hT : Tryz.prog.underlying T = some (.slice 3))
    (ho : o.op = .call { callee := .builtin .append, args := #[s, x], argTypes := #[T, T] }) (base : Nat) (v : Value) (l : List Int) (k : Int) (hs : a.eval s = v) (h : QRow base w v l)
    (g0 c : Nat) (hx : a.eval x = .slice (some ⟨g0, 0, none⟩) 1 c) (hb : Blk w g0 [.int .i64 k] 3) (hk : InI k) (hlen : (l.length + 1) * 8 ≤ 140737488351232) (hbase : base ≤ w.heap.size)
    (hK : ∀ v' w', QRow base w' v' (l ++ [k]) → w.grownBy w' v.ownBlock → (v'.ownBlock = v.ownBlock ∨ v'.ownBlock = some w.heap.size) → wpList Tryz.prog ops Q rest (a.put o.dst v') w') : wpList Tryz.prog ops Q (o :: rest) a w :=
  wpList_plain hgd fun _ hK' => wp_appendQ s x T hT ho base v l k hs h g0 c hx hb hk hlen hbase fun v' w' h2 h3 h4 => hK' _ _ (hK v' w' h2 h3 h4)
theorem allR_succ (n : Nat) (f : Nat → Bool) : allR (n + 1) f = (allR n f && f n) := by
  simp [allR, List.range_succ, List.all_append]
theorem sub_perm : ∀ {a b : List Int}, a.Nodup → (∀ x ∈ a, x ∈ b) → b.length ≤ a.length → a.Perm b
  | [], b, _, _, hl => by
    have : b = [] := List.eq_nil_of_length_eq_zero (by simpa using hl)
    rw [this]
  | x :: a, b, hn, h, hl => by
    rw [List.nodup_cons] at hn
    have hx := h x (by simp)
    have h2 := sub_perm (b := b.erase x) hn.2 (fun y hy => (List.mem_erase_of_ne (fun (e : y = x) => hn.1 (e ▸ hy))).2 (h y (by simp [hy]))) (by
      rw [List.length_erase_of_mem hx]
      rw [List.length_cons] at hl
      omega)
    exact (h2.cons x).trans (List.perm_cons_erase hx).symm
theorem Ints.src {w : World} {x : Value} {m : List Int} (h : Ints w x m) : _root_.Go.Src Tryz.prog 1 23 x m.length (m.map (Value.int .i64)) w := by
  obtain ⟨a, c, rfl, -, -, -, hc⟩ := h.form
  cases m with
  | nil =>
    cases a with
    | none => exact _root_.Go.Src.ofNil w Tryz.underlying23 c
    | some a => exact _root_.Go.Src.ofSlice w Tryz.underlying23 a 0 c [] (by simp) (fun j u hu => by simp at hu) (fun u hu => by simp at hu)
  | cons y m =>
    obtain ⟨b, off, rfl, -, hcc⟩ := hc (by simp)
    refine _root_.Go.Src.ofSlice w Tryz.underlying23 ⟨b, off, none⟩ _ c ((y :: m).map (Value.int .i64)) (by simp) (fun j u hu => ?_) (fun u hu => ?_)
    · have hj : j < (y :: m).length := by have := (List.getElem?_eq_some_iff.1 hu).1; simpa using this
      have hadd : (⟨b, off, none⟩ : Addr).add j = ⟨b, off + j, none⟩ := by unfold Addr.add; split <;> simp_all
      rw [hadd, hcc j hj, ← hu, map_ix _ j hj]
    · obtain ⟨z, -, rfl⟩ := List.mem_map.1 hu
      simp [Value.oneCell']
theorem run_appendQs (base : Nat) (T ty : TypeId) (hT : Tryz.prog.underlying T = some (.slice 3)) (hTT : T = 23) (w : World) (v : Value) (l : List Int) (h : QRow base w v l) (x : Value) (m : List Int) (hx : Ints w x m)
    (hlen : (l.length + m.length) * 8 ≤ 140737488351232) (hbase : base ≤ w.heap.size) :
    ∃ v' w', (Builtin.append_ #[T, T] ty #[v, x]).run Tryz.prog w = .ok v' w' ∧ QRow base w' v' (l ++ m) ∧ w.grownBy w' v.ownBlock ∧ (v'.ownBlock = v.ownBlock ∨ v'.ownBlock = some w.heap.size) := by
  subst hTT
  have hi := infoI
  obtain ⟨i, hi, he⟩ := Option.map_eq_some_iff.1 hi
  simp only [Prod.mk.injEq] at he
  obtain ⟨hz, hs, hby⟩ := he
  have hsrc := hx.src
  have hsrc' : _root_.Go.Src Tryz.prog i.size 23 x m.length (m.map (Value.int .i64)) w := by rw [hs]; exact hsrc
  have hfit := h.1.app hx.2
  have zc : ∀ n, (Builtin.zeroCells (Value.int .i64 0).cells n).size = n := fun n => by simp [Builtin.zeroCells, Value.cells]
  have grow : ∀ (cur : Array Value) (cap : Nat), cur.size = cap → cap ≤ maxLen → l.length + m.length ≤ cap → (∀ i, i < l.length → cur[i]? = some (.int .i64 (ix l i))) → (∀ i, i < m.length → cur[l.length + i]? = some (.int .i64 (ix m i))) →
      QRow base (w.drew.alloc (.cells cur 3)) (.slice (some ⟨w.heap.size, 0, none⟩) (l.length + m.length) cap) (l ++ m) ∧ ∀ row, w.grownBy (w.drew.alloc (.cells cur 3)) row := by
    intro cur cap h1 h2 h3 h4 h5
    refine ⟨⟨hfit, .inr ⟨w.heap.size, 0, cap, cur, by simp, hbase, heap_alloc_new w.drew _, by simpa using h3, h2, by omega, fun j hj => ?_⟩⟩, fun row => ⟨rfl, rfl, rfl, by simp, fun k hk _ => Below.heap_alloc w.drew _ _ hk⟩⟩
    simp only [List.length_append] at hj
    rw [ix_app, Nat.zero_add]
    split
    · rename_i hlt; exact h4 j hlt
    · have := h5 (j - l.length) (by omega)
      rw [show l.length + (j - l.length) = j by omega] at this
      exact this
  have growAt : ∀ (b0 : Option Addr) (cap : Nat) (olds : List Value), (Builtin.firstCells i.size l.length (.slice b0 l.length cap)).run Tryz.prog w.drew = .ok olds.toArray w.drew → olds = (List.range l.length).map (fun i => Value.int .i64 (ix l i)) → cap < l.length + m.length →
      ∃ v' w', (Builtin.append_ #[23, 23] ty #[.slice b0 l.length cap, x]).run Tryz.prog w = .ok v' w' ∧ QRow base w' v' (l ++ m) ∧ (∀ row, w.grownBy w' row) ∧ v'.ownBlock = some w.heap.size := by
    intro b0 cap olds hold holds hlt
    have hr := run_append_grow_src (P := Tryz.prog) w 23 23 ty 3 i _ hT hi hz b0 l.length cap olds hold x m.length _ hsrc' hlt (by omega) (growslice_fits hlt (by rw [hby]; omega))
    have hge := grownCap_ge w (l.length + m.length) cap 3
    have hlo : olds.length = l.length := by rw [holds]; simp
    obtain ⟨q1, q2⟩ := grow ((olds ++ m.map (Value.int .i64)).toArray ++ Builtin.zeroCells (Value.int .i64 0).cells (grownCap w (l.length + m.length) cap 3 - (l.length + m.length))) (grownCap w (l.length + m.length) cap 3)
      (by simp only [Array.size_append, List.size_toArray, List.length_append, List.length_map, hlo, zc]; omega) (grownCap_le_maxLen w (l.length + m.length) cap 3 (by unfold maxLen; omega)) hge
      (fun j hj => by
        rw [Array.getElem?_append_left (by simp; omega), List.getElem?_toArray, List.getElem?_append_left (by omega), holds]
        simp [hj])
      (fun j hj => by
        rw [Array.getElem?_append_left (by simp; omega), List.getElem?_toArray, List.getElem?_append_right (by omega), hlo, Nat.add_sub_cancel_left]
        exact map_ix m j hj)
    exact ⟨_, _, hr, q1, q2, rfl⟩
  rcases h.2 with ⟨rfl, rfl⟩ | ⟨g, off, cap, cur, rfl, hbg, hg, hnc, hcm, hcs, hcell⟩
  · cases m with
    | nil =>
      refine ⟨.slice none 0 0, w, ?_, QRow.nil _ _, ⟨rfl, rfl, rfl, Nat.le_refl _, fun _ _ _ => rfl⟩, .inl rfl⟩
      have h0 : (Builtin.firstCells i.size 0 x).run Tryz.prog w = .ok #[] w := hsrc'.cells
      simp [Builtin.append_, run_underlying hT, sizeOf, typeInfo, hi, hsrc'.len, h0]
    | cons y m =>
      obtain ⟨v', w', h1, h2, h3, h4⟩ := growAt none 0 [] (by exact run_firstCells_none (P := Tryz.prog) w.drew i.size 0 0 0) rfl (by simp)
      exact ⟨v', w', h1, h2, h3 _, .inr h4⟩
  · by_cases hroom : l.length + m.length ≤ cap
    · have hst := run_storeCells_at Tryz.prog g (off + l.length) 3 (m.map (Value.int .i64)) 0 cur w hg (by simp only [List.length_map]; omega) (by simp [Value.oneCell'])
      simp only [Nat.add_zero, List.length_map] at hst
      refine ⟨.slice (some ⟨g, off, none⟩) (l.length + m.length) cap, w.setRow g (cur.toList.take (off + l.length) ++ m.map (Value.int .i64) ++ cur.toList.drop (off + l.length + m.length)).toArray, ?_, ⟨hfit, .inr ⟨g, off, cap, (cur.toList.take (off + l.length) ++ m.map (Value.int .i64) ++ cur.toList.drop (off + l.length + m.length)).toArray, by simp, hbg, setRow_heap w g cur _ 3 _ hg, by simpa using hroom, hcm, ?_, fun j hj => ?_⟩⟩, ⟨rfl, rfl, rfl, by simp, fun k _ hk => setRow_other w g k _ (fun e => hk (by simp [Value.ownBlock, e]))⟩, .inl rfl⟩
      · have hadd : (⟨g, off, none⟩ : Addr).add (l.length * i.size) = ⟨g, off + l.length, none⟩ := by rw [hs]; unfold Addr.add; split <;> simp_all
        simp [Builtin.append_, run_underlying hT, sizeOf, typeInfo, hi, hsrc'.len, hroom, hsrc'.cells, hadd, hst]
      · simp only [List.size_toArray, List.length_append, List.length_take, List.length_drop, Array.length_toList, List.length_map]
        omega
      · simp only [List.length_append] at hj
        rw [ix_app]
        split
        · rename_i hlt
          rw [← hcell j hlt]
          simp only [List.getElem?_toArray, List.append_assoc]
          rw [List.getElem?_append_left (by simp; omega), List.getElem?_take_of_lt (by omega)]
          simp
        · simp only [List.getElem?_toArray, List.append_assoc]
          rw [List.getElem?_append_right (by simp; omega)]
          have : min (off + l.length) cur.size = off + l.length := by omega
          simp only [List.length_take, Array.length_toList, this]
          rw [List.getElem?_append_left (by simp; omega), show off + j - (off + l.length) = j - l.length by omega]
          exact map_ix m _ (by omega)
    · have holds : ∀ j u, ((List.range l.length).map (fun i => Value.int .i64 (ix l i)))[j]? = some u → w.drew.cell? ((⟨g, off, none⟩ : Addr).add j) = some u := by
        intro j u hu
        have hadd : (⟨g, off, none⟩ : Addr).add j = ⟨g, off + j, none⟩ := by unfold Addr.add; split <;> simp_all
        have hj : j < l.length := by
          have := (List.getElem?_eq_some_iff.1 hu).1; simpa using this
        rw [hadd]
        show w.cell? _ = _
        rw [cell_of_row w g (off + j) cur 3 (0, 0) hg, hcell j hj]
        simpa [hj] using hu
      obtain ⟨v', w', h1, h2, h3, h4⟩ := growAt (some ⟨g, off, none⟩) cap _ (run_firstCells_some (P := Tryz.prog) w.drew i.size l.length ⟨g, off, none⟩ l.length cap _ (by rw [hs]; simp) holds) rfl (by omega)
      exact ⟨v', w', h1, h2, h3 _, .inr h4⟩
theorem wpList_appendQs {ops : Array Oper} {rest : List Oper} {o : Oper} {a : Act} {w : World} {Q : Exit → Act → World → Prop} (hgd : o.guard = none) (s x : Operand)
    (ho : o.op = .call { callee := .builtin .append, args := #[s, x], argTypes := #[23, 23] }) (base : Nat) (v y : Value) (l m : List Int) (hs : a.eval s = v) (hx : a.eval x = y) (h : QRow base w v l) (hy : Ints w y m)
    (hlen : (l.length + m.length) * 8 ≤ 140737488351232) (hbase : base ≤ w.heap.size)
    (hK : ∀ v' w', QRow base w' v' (l ++ m) → w.grownBy w' v.ownBlock → (v'.ownBlock = v.ownBlock ∨ v'.ownBlock = some w.heap.size) → wpList Tryz.prog ops Q rest (a.put o.dst v') w') : wpList Tryz.prog ops Q (o :: rest) a w :=
  wpList_plain hgd fun _ hK' => by
    obtain ⟨v', w', hr, h2, h3, h4⟩ := run_appendQs base 23 o.type Tryz.underlying23 rfl w v l h y m hy hlen hbase
    unfold Oper.wp execOp
    simp only [ho, resolve, invoke, builtin, Sem.run_bind, Sem.run_pure, Result.andThen_ok, List.map_toArray, List.map_cons, List.map_nil, hs, hx, hr]
    exact hK' _ _ (hK v' w' h2 h3 h4)
theorem QRow.empty {base b : Nat} {w : World} (h : w.heap[b]? = some (.cells #[] 3 (0, 0))) (hb : base ≤ b) : QRow base w (.slice (some ⟨b, 0, none⟩) 0 0) [] :=
  ⟨fun i => by simp [ix], .inr ⟨b, 0, 0, #[], rfl, hb, h, by simp, by unfold maxLen; omega, by simp, fun i hi => by simp at hi⟩⟩
theorem setQ_of {n : Int} {l : List Int} (hs : l.Pairwise (· < ·)) (hr : ∀ x ∈ l, 1 ≤ x ∧ x ≤ n) : setQ n l = true := by
  refine allR_true fun j hj => ?_
  have h1 := hr _ (ix_mem hj)
  unfold setTo
  rw [decide_eq_true h1, Bool.true_and]
  rw [List.pairwise_iff_getElem] at hs
  by_cases h0 : j = 0
  · subst h0; simp
  · have := hs (j - 1) j (by omega) hj (by omega)
    have e1 : ix l (j - 1) = l[j - 1] := by simp [ix, List.getD_eq_getElem?_getD, List.getElem?_eq_getElem (show j - 1 < l.length by omega)]
    have e2 : ix l j = l[j] := by simp [ix, List.getD_eq_getElem?_getD, List.getElem?_eq_getElem hj]
    simp [e1, e2, this]
theorem nowX_congr {p : GP} {T T' m : List Int} (h : ∀ x, x ∈ T ↔ x ∈ T') (k : Int) (l : List Int) : nowX p m T k l = nowX p m T' k l := by
  unfold nowX firR; simp only [derT_congr h]
def exrTo (p : GP) (m : List Int) : Nat → List WY
  | 0 => []
  | k + 1 => exrTo p m k ++ nowX p m (atomsY (exrTo p m k)) (k + 1) (leftX m (exrTo p m k))
theorem exrTo_sub (p : GP) (m : List Int) : ∀ k, ∀ y ∈ exrTo p m k, y.atom ∈ m
  | 0, y, h => by cases h
  | k + 1, y, h => by
    unfold exrTo at h
    rcases List.mem_append.1 h with h | h
    · exact exrTo_sub p m k y h
    · exact (List.mem_filter.1 (nowX_mem h).1).1
theorem doneX_mem {m : List Int} {ws : List WY} (h : ∀ y ∈ ws, y.atom ∈ m) (x : Int) : x ∈ doneX m ws ↔ x ∈ atomsY ws := by
  unfold doneX
  rw [List.mem_filter, decide_eq_true_eq]
  refine ⟨fun h => h.2, fun hx => ⟨?_, hx⟩⟩
  obtain ⟨y, hy, rfl⟩ := List.mem_map.1 hx
  exact h y hy
theorem nowX_level {p : GP} {m T : List Int} {k k' : Int} {l : List Int} (h : nowX p m T k l = []) : nowX p m T k' l = [] := by
  unfold nowX at h ⊢
  rw [List.filterMap_eq_nil_iff] at h ⊢
  intro a ha
  have := h a ha
  rw [Option.map_eq_none_iff] at this ⊢
  exact this
theorem exrTo_stay {p : GP} {m : List Int} {k : Nat} (h : nowX p m (atomsY (exrTo p m k)) (k + 1) (leftX m (exrTo p m k)) = []) : ∀ d, exrTo p m (k + d) = exrTo p m k
  | 0 => rfl
  | d + 1 => by
    have ih := exrTo_stay h d
    have h2 := nowX_level (k' := ((k + d : Nat) : Int) + 1) h
    rw [show exrTo p m (k + (d + 1)) = exrTo p m (k + d) ++ nowX p m (atomsY (exrTo p m (k + d))) (((k + d : Nat) : Int) + 1) (leftX m (exrTo p m (k + d))) from rfl, ih, h2, List.append_nil]
theorem expX_ref (p : GP) (m : List Int) : ∀ (f k : Nat), expX p m f (k + 1) (exrTo p m k) = ⟨exrTo p m (k + f), leftX m (exrTo p m (k + f))⟩
  | 0, k => rfl
  | f + 1, k => by
    have hc := nowX_congr (p := p) (m := m) (doneX_mem (exrTo_sub p m k)) ((k : Int) + 1) (leftX m (exrTo p m k))
    unfold expX
    rw [show ((k + 1 : Nat) : Int) = (k : Int) + 1 by omega, hc]
    split
    · rename_i h
      rw [exrTo_stay h (f + 1)]
    · have ih := expX_ref p m f (k + 1)
      rw [show k + (f + 1) = k + 1 + f by omega, ← ih]
      rfl
theorem explX_ref (p : GP) (m : List Int) : explX p m = ⟨exrTo p m m.length, leftX m (exrTo p m m.length)⟩ := by
  have := expX_ref p m m.length 0
  simp only [Nat.zero_add] at this
  exact this
def chkAt (p : GP) (m : List Int) (x : XP) (i : Nat) : Bool :=
  decide ((ixY x.whys i).atom ∈ m) && (!decide ((ixY x.whys i).atom ∈ x.rest) && (decide (1 ≤ (ixY x.whys i).level) && (decide (0 ≤ (ixY x.whys i).rule) && (decide ((ixY x.whys i).rule < p.rules.length) &&
    ((i == 0 || !(decide ((ixY x.whys i).level < (ixY x.whys (i - 1)).level) || (decide ((ixY x.whys (i - 1)).level = (ixY x.whys i).level) && decide ((ixY x.whys i).atom ≤ (ixY x.whys (i - 1)).atom)))) &&
      (allR x.whys.length (fun k => k == i || !decide ((ixY x.whys k).atom = (ixY x.whys i).atom)) && derT (lowY x.whys (ixY x.whys i).level) m (ixR p.rules (ixY x.whys i).rule.toNat) (ixY x.whys i).atom))))))
def chkR (p : GP) (m : List Int) (x : XP) : Bool :=
  setQ p.n x.rest && (decide (x.whys.length + x.rest.length = m.length) && (allR x.rest.length (fun i => decide (ix x.rest i ∈ m)) && allR x.whys.length (chkAt p m x)))
theorem pairwise_step {l : List Int} (h : ∀ i, i + 1 < l.length → ix l i ≤ ix l (i + 1)) : l.Pairwise (· ≤ ·) := by
  rw [List.pairwise_iff_getElem]
  intro i j hi hj hij
  rw [← ix_get hi, ← ix_get hj]
  obtain ⟨d, rfl⟩ : ∃ d, j = i + d + 1 := ⟨j - i - 1, by omega⟩
  clear hij
  induction d with
  | zero => exact h i hj
  | succ d ih => exact Int.le_trans (ih (by omega)) (h (i + d + 1) hj)
theorem nodup_strict {l : List Int} (h : l.Pairwise (· ≤ ·)) (hn : l.Nodup) : l.Pairwise (· < ·) := by
  have := h.and hn
  exact this.imp fun ⟨h1, h2⟩ => Int.lt_iff_le_and_ne.2 ⟨h1, h2⟩
theorem chk_ref {p : GP} {m : List Int} (x : XP) (hv : validE p = 0) (hm : setQ p.n m = true) : chkX p m x = chkR p m x := by
  have hn := (validP hv).n
  have hms := setQ_sorted hm
  have hmn : m.Nodup := hms.imp fun h => Int.ne_of_lt h
  have hmr : ∀ x ∈ m, 1 ≤ x ∧ x ≤ (p.n.toNat : Int) := fun x hx => by have := setQ_rng hm hx; omega
  rw [Bool.eq_iff_iff]
  unfold chkX chkR
  simp only [Bool.and_eq_true, decide_eq_true_eq]
  constructor
  · rintro ⟨h1, h2, h3, h4, h5⟩
    have hnd : (x.rest ++ atomsY x.whys).Nodup := h2.nodup_iff.2 hmn
    rw [List.nodup_append] at hnd
    obtain ⟨n1, n2, n3⟩ := hnd
    have hs1 : ∀ a ∈ x.rest, a ∈ m := fun a ha => h2.subset (List.mem_append.2 (.inl ha))
    have hs2 : ∀ y ∈ x.whys, y.atom ∈ m := fun y hy => h2.subset (List.mem_append.2 (.inr (List.mem_map.2 ⟨y, hy, rfl⟩)))
    have hlv : ∀ y ∈ x.whys, 1 ≤ y.level := fun y hy => by
      obtain ⟨i, hi, rfl⟩ := mem_ixY hy
      have := allR_get h1 i hi
      unfold rngY at this
      simp only [Bool.and_eq_true, decide_eq_true_eq] at this
      exact this.2.2.2.2
    refine ⟨setQ_of (nodup_strict (pairwise_step fun i hi => of_decide_eq_true (allR_get h3 i (by omega))) n1) (fun a ha => setQ_rng hm (hs1 a ha)), ?_, ?_, ?_⟩
    · have := h2.length_eq
      rw [List.length_append] at this
      unfold atomsY at this
      rw [List.length_map] at this
      omega
    · exact allR_true fun i hi => decide_eq_true (hs1 _ (ix_mem hi))
    · refine allR_true fun i hi => ?_
      have r1 := allR_get h1 i hi
      unfold rngY at r1
      simp only [Bool.and_eq_true, decide_eq_true_eq] at r1
      have r5 := allR_get h5 i hi
      rw [derT_congr (lvT_low hmr n2 hs2 hlv)] at r5
      unfold chkAt
      simp only [Bool.and_eq_true, decide_eq_true_eq, Bool.not_eq_true', decide_eq_false_iff_not, Bool.or_eq_true, beq_iff_eq]
      have hinj : ∀ k, k < x.whys.length → (ixY x.whys k).atom = (ixY x.whys i).atom → k = i := fun k hk e => by
        have hk2 : k < (atomsY x.whys).length := by simpa [atomsY] using hk
        have hi2 : i < (atomsY x.whys).length := by simpa [atomsY] using hi
        refine (List.getElem_inj (h₀ := hk2) (h₁ := hi2) n2).1 ?_
        simp only [atomsY, List.getElem_map, ← ixY_get hk, ← ixY_get hi]
        exact e
      refine ⟨hs2 _ (ixY_mem hi), fun hc => n3 _ hc _ (List.mem_map.2 ⟨_, ixY_mem hi, rfl⟩) rfl, r1.2.2.2.2, r1.2.2.1, r1.2.2.2.1, ?_, ?_, r5⟩
      · by_cases h0 : i = 0
        · exact .inl h0
        · refine .inr ?_
          have r4 := allR_get h4 (i - 1) (by omega)
          rw [show i - 1 + 1 = i by omega] at r4
          unfold ordY at r4
          simp only [Bool.or_eq_true, Bool.and_eq_true, decide_eq_true_eq] at r4
          have hne : (ixY x.whys (i - 1)).atom ≠ (ixY x.whys i).atom := fun e => by have := hinj (i - 1) (by omega) e; omega
          simp only [Bool.or_eq_false_iff, Bool.and_eq_false_iff, decide_eq_false_iff_not]
          omega
      · refine allR_true fun k hk => ?_
        by_cases e : k = i
        · simp [e]
        · have : (ixY x.whys k).atom ≠ (ixY x.whys i).atom := fun e2 => e (hinj k hk e2)
          simp [this]
  · rintro ⟨h1, h2, h3, h4⟩
    have hat : ∀ i, i < x.whys.length → _ := fun i hi => by
      have := allR_get h4 i hi
      unfold chkAt at this
      simp only [Bool.and_eq_true, decide_eq_true_eq, Bool.not_eq_true', decide_eq_false_iff_not, Bool.or_eq_true, beq_iff_eq] at this
      exact this
    have n1 : x.rest.Nodup := (setQ_sorted h1).imp fun h => Int.ne_of_lt h
    have n2 : (atomsY x.whys).Nodup := by
      unfold List.Nodup
      rw [List.pairwise_iff_getElem]
      intro i j hi hj hij e
      simp only [atomsY, List.length_map] at hi hj
      simp only [atomsY, List.getElem_map, ← ixY_get hi, ← ixY_get hj] at e
      have := allR_get (hat i hi).2.2.2.2.2.2.1 j hj
      rw [Bool.or_eq_true, beq_iff_eq, Bool.not_eq_true', decide_eq_false_iff_not] at this
      rcases this with h | h
      · omega
      · exact h e.symm
    have hs1 : ∀ a ∈ x.rest, a ∈ m := fun a ha => by
      obtain ⟨j, hj, rfl⟩ := mem_ix.1 ha
      exact of_decide_eq_true (allR_get h3 j hj)
    have hs2 : ∀ y ∈ x.whys, y.atom ∈ m := fun y hy => by
      obtain ⟨i, hi, rfl⟩ := mem_ixY hy
      exact (hat i hi).1
    have hlv : ∀ y ∈ x.whys, 1 ≤ y.level := fun y hy => by
      obtain ⟨i, hi, rfl⟩ := mem_ixY hy
      exact (hat i hi).2.2.1
    have hnd : (x.rest ++ atomsY x.whys).Nodup := by
      rw [List.nodup_append]
      refine ⟨n1, n2, fun a ha b hb e => ?_⟩
      subst e
      obtain ⟨y, hy, rfl⟩ := List.mem_map.1 hb
      obtain ⟨i, hi, rfl⟩ := mem_ixY hy
      exact (hat i hi).2.1 ha
    refine ⟨?_, ?_, ?_, ?_, ?_⟩
    · refine allR_true fun i hi => ?_
      have r := hat i hi
      have := hmr _ r.1
      unfold rngY
      simp only [Bool.and_eq_true, decide_eq_true_eq]
      exact ⟨this.1, by omega, r.2.2.2.1, r.2.2.2.2.1, r.2.2.1⟩
    · refine sub_perm hnd (fun a ha => ?_) ?_
      · rcases List.mem_append.1 ha with ha | ha
        · exact hs1 a ha
        · obtain ⟨y, hy, rfl⟩ := List.mem_map.1 ha
          exact hs2 y hy
      · rw [List.length_append]; unfold atomsY; rw [List.length_map]; omega
    · refine allR_true fun i hi => decide_eq_true ?_
      have := List.pairwise_iff_getElem.1 (setQ_sorted h1) i (i + 1) (by omega) (by omega) (by omega)
      rw [← ix_get (show i < x.rest.length by omega), ← ix_get (show i + 1 < x.rest.length by omega)] at this
      omega
    · refine allR_true fun i hi => ?_
      have r := (hat (i + 1) (by omega)).2.2.2.2.2.1
      rcases r with r | r
      · omega
      · simp only [Nat.add_sub_cancel, Bool.or_eq_false_iff, Bool.and_eq_false_iff, decide_eq_false_iff_not] at r
        unfold ordY
        simp only [Bool.or_eq_true, Bool.and_eq_true, decide_eq_true_eq]
        omega
    · refine allR_true fun i hi => ?_
      rw [derT_congr (lvT_low hmr n2 hs2 hlv)]
      exact (hat i hi).2.2.2.2.2.2.2
def sg (l : List Nat) (r : Nat) : Nat := l.getD r (1000 + r)
theorem firR_some {p : GP} {m T : List Int} {a : Int} {i : Nat} (h : firR p m T a = some i) : i < p.rules.length ∧ derT T m (ixR p.rules i) a = true := by
  unfold firR at h
  have h1 := List.mem_of_find?_eq_some h
  have h2 := List.find?_some h
  exact ⟨List.mem_range.1 h1, h2⟩
theorem atoms_app (a b : List WY) : atomsY (a ++ b) = atomsY a ++ atomsY b := by simp [atomsY]
theorem exrTo_lev (p : GP) (m : List Int) : ∀ k, ∀ y ∈ exrTo p m k, 1 ≤ y.level ∧ y.level ≤ k
  | 0, y, h => by cases h
  | k + 1, y, h => by
    unfold exrTo at h
    rcases List.mem_append.1 h with h | h
    · have := exrTo_lev p m k y h; omega
    · have := (nowX_mem h).2.1; omega
theorem exrTo_der (p : GP) (m : List Int) : ∀ k, ∀ y ∈ exrTo p m k, ∃ j i : Nat, j < k ∧ y.level = (j : Int) + 1 ∧ y.rule = i ∧ firR p m (atomsY (exrTo p m j)) y.atom = some i
  | 0, y, h => by cases h
  | k + 1, y, h => by
    unfold exrTo at h
    rcases List.mem_append.1 h with h | h
    · obtain ⟨j, i, h1, h2⟩ := exrTo_der p m k y h
      exact ⟨j, i, by omega, h2⟩
    · obtain ⟨-, h2, i, h3, h4⟩ := nowX_mem h
      exact ⟨k, i, by omega, h2, h4, h3⟩
theorem exrTo_pre (p : GP) (m : List Int) {j : Nat} : ∀ d, ∀ y, y ∈ exrTo p m (j + d) → (y ∈ exrTo p m j ∨ (j : Int) < y.level)
  | 0, y, h => .inl h
  | d + 1, y, h => by
    rw [show j + (d + 1) = (j + d) + 1 by omega] at h
    unfold exrTo at h
    rcases List.mem_append.1 h with h | h
    · exact exrTo_pre p m d y h
    · have := (nowX_mem h).2.1; right; omega
theorem exrTo_mono (p : GP) (m : List Int) {j : Nat} : ∀ d, ∀ y ∈ exrTo p m j, y ∈ exrTo p m (j + d)
  | 0, y, h => h
  | d + 1, y, h => by
    rw [show j + (d + 1) = (j + d) + 1 by omega]
    unfold exrTo
    exact List.mem_append.2 (.inl (exrTo_mono p m d y h))
theorem exrTo_low (p : GP) (m : List Int) {j K : Nat} (h : j ≤ K) (x : Int) : x ∈ lowY (exrTo p m K) ((j : Int) + 1) ↔ x ∈ atomsY (exrTo p m j) := by
  obtain ⟨d, rfl⟩ : ∃ d, K = j + d := ⟨K - j, by omega⟩
  unfold lowY atomsY
  simp only [List.mem_map, List.mem_filter, decide_eq_true_eq]
  constructor
  · rintro ⟨y, ⟨h1, h2⟩, rfl⟩
    rcases exrTo_pre p m d y h1 with h3 | h3
    · exact ⟨y, h3, rfl⟩
    · omega
  · rintro ⟨y, h1, rfl⟩
    have := exrTo_lev p m j y h1
    exact ⟨y, ⟨exrTo_mono p m d y h1, by omega⟩, rfl⟩
theorem exrTo_nod (p : GP) {m : List Int} (hm : m.Nodup) : ∀ k, (atomsY (exrTo p m k)).Nodup
  | 0 => List.nodup_nil
  | k + 1 => by
    have ih := exrTo_nod p hm k
    have hsub := nowX_atoms p m (atomsY (exrTo p m k)) (k + 1) (leftX m (exrTo p m k))
    unfold exrTo
    rw [atoms_app, List.nodup_append]
    refine ⟨ih, (hm.sublist List.filter_sublist).sublist hsub, fun a ha b hb e => ?_⟩
    subst e
    have := (List.mem_filter.1 (hsub.subset hb)).2
    exact (of_decide_eq_true this) ha
theorem nowX_sorted {p : GP} {m T : List Int} {k : Int} {l : List Int} (h : l.Pairwise (· < ·)) : (nowX p m T k l).Pairwise (fun a b => a.atom < b.atom) := by
  have h2 := h.sublist (nowX_atoms p m T k l)
  unfold atomsY at h2
  exact List.pairwise_map.1 h2
theorem exrTo_ord (p : GP) {m : List Int} (hm : m.Pairwise (· < ·)) : ∀ k, (exrTo p m k).Pairwise (fun a b => a.level < b.level ∨ (a.level = b.level ∧ a.atom < b.atom))
  | 0 => List.Pairwise.nil
  | k + 1 => by
    unfold exrTo
    refine List.pairwise_append.2 ⟨exrTo_ord p hm k, ?_, fun a ha b hb => ?_⟩
    · have h1 := nowX_sorted (p := p) (m := m) (T := atomsY (exrTo p m k)) (k := (k : Int) + 1) (hm.filter fun a => decide (a ∉ atomsY (exrTo p m k)))
      refine h1.imp_of_mem fun {a b} ha hb h => .inr ⟨?_, h⟩
      rw [(nowX_mem ha).2.1, (nowX_mem hb).2.1]
    · have := exrTo_lev p m k a ha
      have := (nowX_mem hb).2.1
      left; omega
theorem expl_valid {p : GP} {m : List Int} (hv : validE p = 0) (hm : setQ p.n m = true) : chkX p m (explX p m) = true := by
  rw [chk_ref _ hv hm, explX_ref]
  have hms := setQ_sorted hm
  have hmn : m.Nodup := hms.imp fun h => Int.ne_of_lt h
  generalize hK : m.length = K
  have hsub := exrTo_sub p m K
  have hnod := exrTo_nod p hmn K
  unfold chkR
  simp only [Bool.and_eq_true, decide_eq_true_eq]
  refine ⟨setQ_of (hms.filter _) (fun x hx => setQ_rng hm (List.mem_filter.1 hx).1), ?_, ?_, ?_⟩
  · have hperm : (leftX m (exrTo p m K) ++ doneX m (exrTo p m K)).Perm m := by
      refine List.perm_append_comm.trans ?_
      unfold leftX doneX
      have := List.filter_append_perm (fun a => decide (a ∈ atomsY (exrTo p m K))) m
      simpa using this
    have hd : (doneX m (exrTo p m K)).Perm (atomsY (exrTo p m K)) := by
      refine sub_perm (hmn.sublist List.filter_sublist) (fun x hx => (doneX_mem hsub x).1 hx) ?_
      exact sub_len hnod fun x hx => (doneX_mem hsub x).2 hx
    have h1 := hperm.length_eq
    have h2 := hd.length_eq
    rw [List.length_append] at h1
    unfold atomsY at h2
    rw [List.length_map] at h2
    omega
  · exact allR_true fun i hi => decide_eq_true (List.mem_filter.1 (ix_mem hi)).1
  · refine allR_true fun i hi => ?_
    have hy := ixY_mem hi
    obtain ⟨j, q, h1, h2, h3, h4⟩ := exrTo_der p m K _ hy
    obtain ⟨h5, h6⟩ := firR_some h4
    have hl := exrTo_lev p m K _ hy
    unfold chkAt
    dsimp only at hi ⊢
    simp only [Bool.and_eq_true, decide_eq_true_eq, Bool.not_eq_true', decide_eq_false_iff_not, Bool.or_eq_true, beq_iff_eq]
    refine ⟨hsub _ hy, fun hc => ?_, hl.1, by omega, by omega, ?_, ?_, ?_⟩
    · have := (List.mem_filter.1 hc).2
      exact (of_decide_eq_true this) (List.mem_map.2 ⟨_, hy, rfl⟩)
    · by_cases h0 : i = 0
      · exact .inl h0
      · refine .inr ?_
        have := List.pairwise_iff_getElem.1 (exrTo_ord p hms K) (i - 1) i (by omega) hi (by omega)
        rw [← ixY_get (show i - 1 < _ by omega), ← ixY_get hi] at this
        simp only [Bool.or_eq_false_iff, Bool.and_eq_false_iff, decide_eq_false_iff_not]
        omega
    · refine allR_true fun k hk => ?_
      by_cases e : k = i
      · simp [e]
      · have : (ixY (exrTo p m K) k).atom ≠ (ixY (exrTo p m K) i).atom := fun e2 => e (by
          have hk2 : k < (atomsY (exrTo p m K)).length := by simpa [atomsY] using hk
          have hi2 : i < (atomsY (exrTo p m K)).length := by simpa [atomsY] using hi
          refine (List.getElem_inj (h₀ := hk2) (h₁ := hi2) hnod).1 ?_
          simp only [atomsY, List.getElem_map, ← ixY_get hk, ← ixY_get hi]
          exact e2)
        simp [this]
    · rw [h2, h3, derT_congr (exrTo_low p m (by omega)), Int.toNat_natCast]
      exact h6
def few17R (r : GR) : Bool := decide (r.head.length + r.body.length + r.w.length ≤ 36)
def few17M (m : GM) : Bool := decide (m.lits.length + m.w.length ≤ 24)
def few17N (s : ByteArray) : Bool := decide (s.size ≤ 40)
def few17B (p : GP) : Bool := (decide (p.n ≤ 12) && decide (p.names.length ≤ 12) && decide (p.shown.length ≤ 12) && decide (p.rules.length ≤ 16) && decide (p.min.length ≤ 6)) && (allR p.names.length (fun i => few17N (ixS p.names i)) && (allR p.rules.length (fun i => few17R (ixR p.rules i)) && allR p.min.length (fun i => few17M (ixM p.min i))))
def FwRel (f : Nat → Bool) (n : Nat) (w : World) (c : List Value) (i : Value) (wx : World) : Prop := ∃ k : Nat, k ≤ n ∧ i = .int .i64 k ∧ (∀ j, j < k → f j = true) ∧ FwSt w c wx
theorem fw_succ {f : Nat → Bool} {k : Nat} (h : ∀ j, j < k → f j = true) (hk : f k = true) : ∀ j, j < k + 1 → f j = true := fun j hj => by
  rcases Nat.lt_succ_iff_lt_or_eq.1 hj with h1 | rfl
  · exact h j h1
  · exact hk
set_option maxHeartbeats 2000000 in
set_option maxRecDepth 100000 in
theorem few17_any (v : Value) (p : GP) (w : World) (h : ProgIs w v p) :
    Calls Tryz.prog 6 #[v] w fun e w' => e = .returned (.bool (few17B p)) ∧ Below w.heap.size w w' := by
  obtain ⟨vn, vs, vr, vm, rfl, hn, hnames, hshown, hrules, hmin⟩ := h
  obtain ⟨a0, c0, rfl, -, hl0, -, hsz, hcn⟩ := hnames.form
  obtain ⟨a3, c3, rfl, -, hl3, -⟩ := hshown.form
  obtain ⟨a1, c1, rfl, -, hl1, -, hcell⟩ := hrules.form
  obtain ⟨a2, c2, rfl, -, hl2, -, hcm⟩ := hmin.form
  unfold InI at hn
  have hal := bal (Below.refl w.heap.size w) (.cells #[.int .i64 p.n, .slice a0 p.names.length c0, .slice a3 p.shown.length c3, .slice a1 p.rules.length c1, .slice a2 p.min.length c2] 27)
  have HCN := Lib.hid hcn
  have HCR := Lib.hid hcell
  have HCM := Lib.hid hcm
  have HSZ := Lib.hid hsz
  clear hnames hshown hrules hmin hcn hcell hcm hsz
  by_cases hfew : (decide (p.n ≤ 12) && decide (p.names.length ≤ 12) && decide (p.shown.length ≤ 12) && decide (p.rules.length ≤ 16) && decide (p.min.length ≤ 6)) = true
  · have HF : Hid (few17B p = (allR p.names.length (fun i => few17N (ixS p.names i)) && (allR p.rules.length (fun i => few17R (ixR p.rules i)) && allR p.min.length (fun i => few17M (ixM p.min i))))) := Lib.hid (by unfold few17B; rw [hfew]; rfl)
    simp only [Bool.and_eq_true, decide_eq_true_eq] at hfew
    obtain ⟨⟨⟨⟨g1, g2⟩, g3⟩, g4⟩, g5⟩ := hfew
    go_enter Tryz.func6, Tryz.ntmps6
    go_upto_region 3 with fail
    have HS0 : Hid (FwSt w [.int .i64 p.n, .slice a0 p.names.length c0, .slice a3 p.shown.length c3, .slice a1 p.rules.length c1, .slice a2 p.min.length c2] (w.alloc (.cells #[.int .i64 p.n, .slice a0 p.names.length c0, .slice a3 p.shown.length c3, .slice a1 p.rules.length c1, .slice a2 p.min.length c2] 27))) := Lib.hid ⟨Blk.new w [.int .i64 p.n, .slice a0 p.names.length c0, .slice a3 p.shown.length c3, .slice a1 p.rules.length c1, .slice a2 p.min.length c2] _, hal⟩
    have kx := HS0.out.box.cell
    clear hal
    generalize w.alloc (.cells #[.int .i64 p.n, .slice a0 p.names.length c0, .slice a3 p.shown.length c3, .slice a1 p.rules.length c1, .slice a2 p.min.length c2] 27) = W at *
    go_wp2
    go_loopw [39] (fun i wx => FwRel (fun i => few17N (ixS p.names i)) p.names.length w [.int .i64 p.n, .slice a0 p.names.length c0, .slice a3 p.shown.length c3, .slice a1 p.rules.length c1, .slice a2 p.min.length c2] i wx) (fun i _ => p.names.length - (intOf i).toNat)
    case atStart => exact ⟨0, by omega, rfl, fun j hj => absurd hj (Nat.not_lt_zero _), HS0.out⟩
    case round =>
      obtain ⟨k, hk, rfl, hall, hb⟩ := hrel
      have HA := Lib.hid hall
      have HS := Lib.hid hb
      clear hall hb kx
      by_cases hlt : k < p.names.length
      · obtain ⟨b, off, rfl, hbl, hc⟩ := HCN.out (by omega)
        have q0 := (bcell HS.out.below _ _ hbl).trans (hc k hlt)
        have hs := HSZ.out k
        clear hc
        by_cases e1 : (ixS p.names k).size ≤ 40
        · have HN := Lib.hid (fw_succ HA.out (show few17N (ixS p.names k) = true from decide_eq_true e1))
          go_wp2
          first
            | (go_roundw
               case rel => (exact ⟨k + 1, by omega, by go_num, HN.out, HS.out⟩)
               case measure => (simp [intOf]; omega))
            | (refine ⟨?_, ?_⟩
               · (exact ⟨k + 1, by omega, by go_num, HN.out, HS.out⟩)
               · (simp [intOf]; omega))
        · have HN : Hid (few17B p = false) := Lib.hid (by rw [HF.out, allR_false k hlt (decide_eq_false e1)]; rfl)
          go_wp2
          go_ret
          exact ⟨ret_bool HN.out.symm, HS.out.below⟩
      · have HN0 : Hid (allR p.names.length (fun i => few17N (ixS p.names i)) = true) := Lib.hid (allR_true (fun j hj => HA.out j (by omega)))
        have kx := HS.out.box.cell
        go_upto_region 9 with fail
        go_wp2
        go_loopw [50] (fun i wx => FwRel (fun i => few17R (ixR p.rules i)) p.rules.length w [.int .i64 p.n, .slice a0 p.names.length c0, .slice a3 p.shown.length c3, .slice a1 p.rules.length c1, .slice a2 p.min.length c2] i wx) (fun i _ => p.rules.length - (intOf i).toNat)
        case atStart => exact ⟨0, by omega, rfl, fun j hj => absurd hj (Nat.not_lt_zero _), HS.out⟩
        case round =>
          obtain ⟨k, hk, rfl, hall, hb⟩ := hrel
          have HA := Lib.hid hall
          have HS2 := Lib.hid hb
          clear hall hb kx
          by_cases hlt : k < p.rules.length
          · obtain ⟨b, off, rfl, hbl, hc⟩ := HCR.out (by omega)
            obtain ⟨vh, vb, vw, ⟨r0, r1, r2, r3, r4, r5⟩, hsl⟩ := hc k hlt
            obtain ⟨x1, y1, rfl, -, g1', -, -⟩ := hsl.head.form
            obtain ⟨x2, y2, rfl, -, g2', -, -⟩ := hsl.body.form
            obtain ⟨x3, y3, rfl, -, g3', -, -⟩ := hsl.wts.form
            have kk := bcell HS2.out.below b
            have q0 := (kk _ hbl).trans r0
            have q1 := (kk _ hbl).trans r1
            have q2 := (kk _ hbl).trans r2
            have q3 := (kk _ hbl).trans r3
            have q4 := (kk _ hbl).trans r4
            have q5 := (kk _ hbl).trans r5
            clear kk r0 r1 r2 r3 r4 r5 hc hsl
            by_cases e1 : (ixR p.rules k).head.length + (ixR p.rules k).body.length + (ixR p.rules k).w.length ≤ 36
            · have HN := Lib.hid (fw_succ HA.out (show few17R (ixR p.rules k) = true from decide_eq_true e1))
              go_wp2
              first
                | (go_roundw
                   case rel => (exact ⟨k + 1, by omega, by go_num, HN.out, HS2.out.on (bal (Below.refl _ _) _)⟩)
                   case measure => (simp [intOf]; omega))
                | (refine ⟨?_, ?_⟩
                   · (exact ⟨k + 1, by omega, by go_num, HN.out, HS2.out.on (bal (Below.refl _ _) _)⟩)
                   · (simp [intOf]; omega))
            · have HN : Hid (few17B p = false) := Lib.hid (by rw [HF.out, HN0.out, allR_false k hlt (decide_eq_false e1)]; rfl)
              go_wp2
              go_ret
              exact ⟨ret_bool HN.out.symm, bal HS2.out.below _⟩
          · have HN1 : Hid (allR p.rules.length (fun i => few17R (ixR p.rules i)) = true) := Lib.hid (allR_true (fun j hj => HA.out j (by omega)))
            have kx := HS2.out.box.cell
            go_upto_region 15 with fail
            go_wp2
            go_loopw [70] (fun i wx => FwRel (fun i => few17M (ixM p.min i)) p.min.length w [.int .i64 p.n, .slice a0 p.names.length c0, .slice a3 p.shown.length c3, .slice a1 p.rules.length c1, .slice a2 p.min.length c2] i wx) (fun i _ => p.min.length - (intOf i).toNat)
            case atStart => exact ⟨0, by omega, rfl, fun j hj => absurd hj (Nat.not_lt_zero _), HS2.out⟩
            case round =>
              obtain ⟨k, hk, rfl, hall, hb⟩ := hrel
              have HA := Lib.hid hall
              have HS3 := Lib.hid hb
              clear hall hb kx
              by_cases hlt : k < p.min.length
              · obtain ⟨b, off, rfl, hbl, hc⟩ := HCM.out (by omega)
                obtain ⟨vl, vw, ⟨r0, r1, r2⟩, hsl⟩ := hc k hlt
                obtain ⟨x1, y1, rfl, -, g1', -, -⟩ := hsl.lits.form
                obtain ⟨x2, y2, rfl, -, g2', -, -⟩ := hsl.wts.form
                have kk := bcell HS3.out.below b
                have q0 := (kk _ hbl).trans r0
                have q1 := (kk _ hbl).trans r1
                have q2 := (kk _ hbl).trans r2
                clear kk r0 r1 r2 hc hsl
                by_cases e1 : (ixM p.min k).lits.length + (ixM p.min k).w.length ≤ 24
                · have HN := Lib.hid (fw_succ HA.out (show few17M (ixM p.min k) = true from decide_eq_true e1))
                  go_wp2
                  first
                    | (go_roundw
                       case rel => (exact ⟨k + 1, by omega, by go_num, HN.out, HS3.out.on (bal (Below.refl _ _) _)⟩)
                       case measure => (simp [intOf]; omega))
                    | (refine ⟨?_, ?_⟩
                       · (exact ⟨k + 1, by omega, by go_num, HN.out, HS3.out.on (bal (Below.refl _ _) _)⟩)
                       · (simp [intOf]; omega))
                · have HN : Hid (few17B p = false) := Lib.hid (by rw [HF.out, HN0.out, HN1.out, allR_false k hlt (decide_eq_false e1)]; rfl)
                  go_wp2
                  go_ret
                  exact ⟨ret_bool HN.out.symm, bal HS3.out.below _⟩
              · have HN : Hid (few17B p = true) := Lib.hid (by rw [HF.out, HN0.out, HN1.out, allR_true (fun j hj => HA.out j (by omega))]; rfl)
                go_wp2
                go_ret
                exact ⟨ret_bool HN.out.symm, HS3.out.below⟩
  · have HF : Hid (few17B p = false) := Lib.hid (by unfold few17B; rw [Bool.eq_false_iff.2 hfew]; rfl)
    simp only [Bool.and_eq_true, decide_eq_true_eq] at hfew
    by_cases g1 : p.n ≤ 12
    · by_cases g2 : p.names.length ≤ 12
      · by_cases g3 : p.shown.length ≤ 12
        · by_cases g4 : p.rules.length ≤ 16
          · have g5 : ¬ p.min.length ≤ 6 := fun h => hfew ⟨⟨⟨⟨g1, g2⟩, g3⟩, g4⟩, h⟩
            clear hfew
            go_enter Tryz.func6, Tryz.ntmps6
            go_wp2
            go_ret
            exact ⟨ret_bool HF.out.symm, hal⟩
          · clear hfew
            go_enter Tryz.func6, Tryz.ntmps6
            go_wp2
            go_ret
            exact ⟨ret_bool HF.out.symm, hal⟩
        · clear hfew
          go_enter Tryz.func6, Tryz.ntmps6
          go_wp2
          go_ret
          exact ⟨ret_bool HF.out.symm, hal⟩
      · clear hfew
        go_enter Tryz.func6, Tryz.ntmps6
        go_wp2
        go_ret
        exact ⟨ret_bool HF.out.symm, hal⟩
    · clear hfew
      go_enter Tryz.func6, Tryz.ntmps6
      go_wp2
      go_ret
      exact ⟨ret_bool HF.out.symm, hal⟩
theorem d4 : Lib.decDigits 4 = [52] := by unfold Lib.decDigits; rfl
theorem SupR.low {p : GP} {x : XP} {a b : Int} (hn : (atomsY x.whys).Nodup) (h : SupR p x a b) {w v : WY} (hw : w ∈ x.whys) (hwa : w.atom = a) (hv : v ∈ x.whys) (hva : v.atom = b) : b = a ∨ v.level < w.level := by
  induction h generalizing v with
  | base => exact .inl rfl
  | step hy hz hr hb hl ih =>
    refine .inr ?_
    have := why_same hn hv hz hva
    subst this
    rcases ih hy rfl with e | h
    · have := why_same hn hy hw (e.trans hwa.symm)
      subst this; exact hl
    · omega
end Go.Proofs.YtgakoainjgjimaaGreatDoor
