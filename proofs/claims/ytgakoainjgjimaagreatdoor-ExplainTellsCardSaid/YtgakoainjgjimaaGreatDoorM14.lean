/- My texts BkR, Ex12, Fw17, Tx1, Bld, Tx2, merged. -/
import Derived.Test.YtgakoainjgjimaaGreatDoorM13
import Derived.Test.YtgakoainjgjimaaGreatDoorM08
import Derived.Test.YtgakoainjgjimaaGreatDoorM07
import Derived.Test.YtgakoainjgjimaaGreatDoorM05
import Derived.Test.YtgakoainjgjimaaGreatDoorM04
import Derived.Test.YtgakoainjgjimaaGreatDoorM03
import Derived.Test.YtgakoainjgjimaaGreatDoorM00
import Derived.Test.YtgakoainjgjimaaGreatDoorProg
import Derived.WalkKit
import Derived.Lib.Hide
import Derived.Deep.QuietTactic
import Derived.BigQuiet
import Derived.WalkSpells
import Derived.Lib.SliceRun
import Derived.MapKept
import Derived.Maps.OwnSet
import Derived.Maps.OwnOps
import Derived.Test.YtgakoainjgjimaaGreatDoorM02
import Derived.Test.YtgakoainjgjimaaGreatDoorM01
import Derived.Deep.AppendLies
import Derived.Lib.Bytealg
import Derived.Deep.DeepCutAuto
import Derived.Laws.EntriesVeiled
import Derived.Deep.RegionWith
import Derived.Deep.OwnRows
import Derived.Test.YtgakoainjgjimaaGreatDoorM06
import Derived.RangeFuncNested
import Derived.RangeFuncBound
import Derived.RangeFuncCalls
import Derived.RangeFuncLeaves
import Derived.OwnWalkIn
import Derived.TacticsInMore
import Derived.LoopNIn
import Derived.LoopIn
import Derived.Stop.RegionWithIn
import Derived.Shelf.Abstract
import Derived.Deep.LoopGhost
import Derived.Deep.DrawnRows
import Derived.Shelf.Sort.Plain
import Derived.Shelf.Slices.CompactI
import Derived.Shelf.Slices.In.SortNone
import Derived.Shelf.Strconv.Itoa3
import Derived.Shelf.Strings.BuilderK
import Derived.Shelf.Slices.SearchI
import Derived.Shelf.Slices.Empties
import Derived.Test.YtgakoainjgjimaaGreatDoorM09
import Derived.Deep.AppendSrc
import Derived.Test.YtgakoainjgjimaaGreatDoorM11
import Derived.Lib.ItoaNum

namespace Go.Proofs.YtgakoainjgjimaaGreatDoor
open Go.RowKit
def bkCell (b : BK) : Nat → Value
  | 0 => .int .i64 b.rule
  | 1 => .int .u8 b.kind
  | _ => .int .i64 b.lit
def BlksIs (w : World) (v : Value) (l : List BK) : Prop := Rows w v 3 24 l.length (fun i => bkCell (ixK l i)) ∧ ∀ y ∈ l, BI y
theorem BlksIs.below {w w' : World} {v : Value} {l : List BK} (h : BlksIs w v l) (hb : Below w.heap.size w w') : BlksIs w' v l := ⟨h.1.below hb, h.2⟩
def BlkCells (w : World) (b o : Nat) (y : BK) : Prop := w.cell? ⟨b, o, none⟩ = some (.int .i64 y.rule) ∧ w.cell? ⟨b, o + 1, none⟩ = some (.int .u8 y.kind) ∧ w.cell? ⟨b, o + 2, none⟩ = some (.int .i64 y.lit)
theorem BlkCells.below {w w' : World} {b o : Nat} {y : BK} (h : BlkCells w b o y) (hb : Below w.heap.size w w') (hl : b < w.heap.size) : BlkCells w' b o y :=
  ⟨(bcell hb _ _ hl).trans h.1, (bcell hb _ _ hl).trans h.2.1, (bcell hb _ _ hl).trans h.2.2⟩
theorem ixK_mem0 {l : List BK} {i : Nat} (hi : i < l.length) : ixK l i ∈ l := by
  simp only [ixK, List.getD_eq_getElem?_getD, List.getElem?_eq_getElem hi, Option.getD_some]
  exact List.getElem_mem hi
theorem BlksIs.form {w : World} {v : Value} {l : List BK} (h : BlksIs w v l) : ∃ a cap, v = .slice a l.length cap ∧ l.length ≤ cap ∧ l.length ≤ 1000000000000000 ∧ cap ≤ maxLen ∧
    (0 < l.length → ∃ b off, a = some ⟨b, off, none⟩ ∧ b < w.heap.size ∧ ∀ i, i < l.length → BlkCells w b (off + i * 3) (ixK l i)) := by
  obtain ⟨⟨a, cap, rfl, h1, hm, h2, h3⟩, h4⟩ := h
  refine ⟨a, cap, rfl, h1, by omega, hm, fun hp => ?_⟩
  obtain ⟨b, off, e, hl, hc⟩ := h3 hp
  exact ⟨b, off, e, hl, fun i hi => ⟨hc i hi 0 (by omega), hc i hi 1 (by omega), hc i hi 2 (by omega)⟩⟩
def MineK (B : Nat) (v : Value) (l : List BK) (w : World) : Prop := w.ownsRow B 71 3 v l.length (l.flatMap cellsK) ∧ ∀ y ∈ l, BI y
theorem MineK.row {B : Nat} {v : Value} {l : List BK} {w : World} (h : MineK B v l w) : w.ownsRow B 71 3 v l.length (l.flatMap cellsK) := h.1
theorem MineK.nil (B : Nat) (w : World) : MineK B (.slice none 0 0) [] w := ⟨⟨by simp, .inl ⟨rfl, rfl⟩⟩, fun y hy => by cases hy⟩
theorem infoK : (Tryz.prog.info? 71).map (fun i => (i.zero, i.size, i.bytes)) = some (some (.agg #[.int .i64 0, .int .u8 0, .int .i64 0]), 3, 24) := by kernel_rfl
section
variable {B : Nat} {v : Value} {l : List BK} {w w' : World}
theorem MineK.slen (h : MineK B v l w) : ∃ a c, v = .slice a l.length c := by
  rcases h.1.2 with ⟨rfl, h0⟩ | ⟨g, cap, cur, rfl, _⟩
  · rw [h0]; exact ⟨_, _, rfl⟩
  · exact ⟨_, _, rfl⟩
theorem MineK.same (h : MineK B v l w) (hs : ∀ i, B ≤ i → i < w.heap.size → v.ownBlock = some i → w'.heap[i]? = w.heap[i]?) : MineK B v l w' := by
  refine ⟨⟨h.1.1, ?_⟩, h.2⟩
  rcases h.1.2 with hn | ⟨g, cap, cur, rfl, hb, hg, rest⟩
  · exact .inl hn
  · exact .inr ⟨g, cap, cur, rfl, hb, (hs g hb (Array.getElem?_eq_some_iff.1 hg).1 rfl).trans hg, rest⟩
theorem MineK.below (h : MineK B v l w) (hb : Below w.heap.size w w') : MineK B v l w' := h.same fun i _ hi _ => hb.block i hi
theorem MineK.mono {B' : Nat} (h : MineK B v l w) (hb : B' ≤ B) : MineK B' v l w := by
  refine ⟨⟨h.1.1, ?_⟩, h.2⟩
  rcases h.1.2 with hn | ⟨g, cap, cur, rfl, hg, rest⟩
  · exact .inl hn
  · exact .inr ⟨g, cap, cur, rfl, Nat.le_trans hb hg, rest⟩
theorem MineK.far (h : MineK B v l w) {b : Nat} {c : List Value} {T : TypeId} (hb : Blk w b c T) (hT : T ≠ 71) : v.ownBlock ≠ some b := fun e => by
  rcases h.1.2 with ⟨rfl, _⟩ | ⟨g, cap, cur, rfl, hg, hgg, _⟩
  · cases e
  · have : g = b := by simpa [Value.ownBlock] using e
    subst this
    unfold Blk at hb
    rw [hb] at hgg
    injection hgg with hgg
    injection hgg with _ h2 _
    exact hT h2
theorem MineK.lt (h : MineK B v l w) {g : Nat} (e : v.ownBlock = some g) : B ≤ g ∧ g < w.heap.size := by
  rcases h.1.2 with ⟨rfl, _⟩ | ⟨g', cap, cur, rfl, hb, hg, _⟩
  · cases e
  · have : g' = g := by simpa [Value.ownBlock] using e
    subst this
    exact ⟨hb, (Array.getElem?_eq_some_iff.1 hg).1⟩
theorem flatK : ∀ (L : List BK) (i j : Nat), i < L.length → j < 3 → (L.flatMap cellsK)[i * 3 + j]? = (cellsK (ixK L i))[j]?
  | [], i, j, h, _ => absurd h (by simp)
  | q :: L, 0, j, _, hj => by
    rw [List.flatMap_cons, List.getElem?_append_left (by simp [cellsK]; omega)]
    simp [ixK]
  | q :: L, i + 1, j, h, hj => by
    rw [List.flatMap_cons, List.getElem?_append_right (by simp [cellsK]; omega)]
    have := flatK L i j (by simpa using h) hj
    rw [show (i + 1) * 3 + j - (cellsK q).length = i * 3 + j by simp [cellsK]; omega, this]
    simp [ixK]
theorem MineK.blks (h : MineK B v l w) (hfit : l.length * 24 ≤ 140737488351232) : BlksIs w v l := by
  refine ⟨?_, h.2⟩
  rcases h.1.2 with ⟨rfl, h0⟩ | ⟨g, cap, cur, rfl, hb, hg, hn, hm, hs, hx⟩
  · exact ⟨none, 0, by rw [h0], by omega, by unfold maxLen; omega, by omega, fun hp => by omega⟩
  · refine ⟨_, cap, rfl, hn, hm, hfit, fun _ => ⟨g, 0, rfl, (Array.getElem?_eq_some_iff.1 hg).1, fun i hi j hj => ?_⟩⟩
    have h6 := flatK l i j hi hj
    rw [← hx, List.getElem?_take_of_lt (by omega)] at h6
    rw [cell_of_row w g (0 + i * 3 + j) cur _ (0, 0) hg, Nat.zero_add]
    have : cur[i * 3 + j]? = cur.toList[i * 3 + j]? := by simp
    rw [this, h6]
    rcases (show j = 0 ∨ j = 1 ∨ j = 2 by omega) with rfl | rfl | rfl <;> rfl
theorem MineK.at {a : Option Addr} {n c k : Nat} (h : MineK B (.slice a n c) l w) (hfit : l.length * 24 ≤ 140737488351232) (hk : k < l.length) : ∃ b off, a = some ⟨b, off, none⟩ ∧ b < w.heap.size ∧ BlkCells w b (off + k * 3) (ixK l k) := by
  obtain ⟨a1, c1, e, -, -, -, hc⟩ := (h.blks hfit).form
  simp only [Value.slice.injEq] at e
  obtain ⟨rfl, -, rfl⟩ := e
  obtain ⟨b, off, e, hb, hcc⟩ := hc (by omega)
  exact ⟨b, off, e, hb, hcc k hk⟩
theorem MineK.one (w : World) {y : BK} (hy : BI y) : MineK w.heap.size (.slice (some ⟨w.heap.size, 0, none⟩) 1 1) [y] (w.alloc (.cells #[.int .i64 y.rule, .int .u8 y.kind, .int .i64 y.lit] 71)) := by
  refine ⟨⟨by simp [cellsK], .inr ⟨w.heap.size, 1, _, rfl, Nat.le_refl _, heap_alloc_new w _, by simp, by unfold maxLen; omega, by simp, by simp [cellsK]⟩⟩, fun z hz => ?_⟩
  obtain rfl : z = y := by simpa using hz
  exact hy
end
theorem wpList_appendK {ops : Array Oper} {rest : List Oper} {o : Oper} {a : Act} {w : World} {Q : Exit → Act → World → Prop} (hgd : o.guard = none) (s x : Operand)
    (ho : o.op = .call { callee := .builtin .append, args := #[s, x], argTypes := #[41, 41] }) (B b0 : Nat) (v y : Value) (L M : List BK) (hs : a.eval s = v) (hx : a.eval x = y) (h : MineK B v L w) (hy : MineK b0 y M w) (hM : 0 < M.length)
    (hlen : L.length + M.length ≤ 1000000000) (hbase : B ≤ w.heap.size)
    (hK : ∀ g cap w', MineK B (.slice (some ⟨g, 0, none⟩) (L.length + M.length) cap) (L ++ M) w' → w.grownBy w' v.ownBlock → wpList Tryz.prog ops Q rest (a.put o.dst (.slice (some ⟨g, 0, none⟩) (L.length + M.length) cap)) w') : wpList Tryz.prog ops Q (o :: rest) a w := by
  obtain ⟨i0, hi, hz0, hz1, hz2⟩ := info_parts infoK
  rcases hy.1.2 with ⟨-, h0⟩ | ⟨g, cap, cur, rfl, hb, hg, hn, hm, hsz, hcl⟩
  · omega
  refine wpList_append_own w hgd s x _ ho B 71 i0 _ 3 24 Tryz.underlying41 hi hz0 hz1 hz2 rfl (by decide) _ L.length (L.flatMap cellsK) hs h.1 ⟨g, 0, none⟩ M.length cap (M.flatMap cellsK) hx (by rw [hy.1.1]) (fun j u hu => ?_) (fun u hu => ?_) (by unfold maxLen; omega) (by omega) hbase (fun v' w' h1 h2 _ => ?_)
  · have hj : j < M.length * 3 := by have := (List.getElem?_eq_some_iff.1 hu).1; rw [hy.1.1] at this; exact this
    rw [Addr.add_lit, Nat.zero_add, cell_of_row w g j cur _ (0, 0) hg]
    rw [← hcl, List.getElem?_take_of_lt hj] at hu
    rw [← hu]; simp
  · obtain ⟨q, hqm, hq⟩ := List.mem_flatMap.1 hu
    simp only [cellsK, List.mem_cons, List.not_mem_nil, or_false] at hq
    rcases hq with rfl | rfl | rfl <;> rfl
  · have hne : ∃ g2 cap2, v' = .slice (some ⟨g2, 0, none⟩) (L.length + M.length) cap2 := by
      rcases h1.2 with ⟨-, h0⟩ | ⟨g2, cap2, cur2, rfl, _⟩
      · omega
      · exact ⟨g2, cap2, rfl⟩
    obtain ⟨g2, cap2, rfl⟩ := hne
    refine hK g2 cap2 w' ⟨by simpa using h1, fun q hq => ?_⟩ h2
    rcases List.mem_append.1 hq with hq | hq
    · exact h.2 q hq
    · exact hy.2 q hq
theorem blkB_rule (r : GR) (m : List Int) (i : Int) : blkB r m i = ⟨i, (blkB r m 0).kind, (blkB r m 0).lit⟩ := by
  unfold blkB
  split
  · split <;> rfl
  · split <;> rfl
theorem blkB_fit {r : GR} {m : List Int} {i : Int} (hh : Fits r.head) (hb : Fits r.body) (hi : InI i) : BI (blkB r m i) := by
  have h0 : InI 0 := by unfold InI; omega
  unfold blkB
  split
  · split
    · exact ⟨hi, by dsimp only; omega, h0⟩
    · exact ⟨hi, by dsimp only; omega, hb _⟩
  · split
    · exact ⟨hi, by dsimp only; omega, h0⟩
    · exact ⟨hi, by dsimp only; omega, hh _⟩
theorem blksTo_len (p : GP) (m : List Int) (a : Int) : ∀ k, (blksTo p m a k).length ≤ k
  | 0 => by simp [blksTo]
  | k + 1 => by
    have := blksTo_len p m a k
    unfold blksTo
    split
    · rw [List.length_append, List.length_singleton]; omega
    · omega
structure BlSt (w : World) (vset : Value) (p : GP) (m : List Int) (n vn vs vr vm : Value) (W : World) : Prop where
  pbx : Blk W w.heap.size [n, vn, vs, vr, vm] 27
  rul : RulesIs W vr p.rules
  set : Ints W vset m
  below : Below w.heap.size w W
theorem BlSt.on {w W W' : World} {vset : Value} {p : GP} {m : List Int} {n vn vs vr vm : Value} (h : BlSt w vset p m n vn vs vr vm W) (hb : Below W.heap.size W W') : BlSt w vset p m n vn vs vr vm W' :=
  ⟨h.pbx.below hb, h.rul.below hb, h.set.below hb, bon h.below hb⟩
def BlRel (p : GP) (m : List Int) (a : Int) (W1 : World) (vo i : Value) (wx : World) : Prop :=
  ∃ k : Nat, k ≤ p.rules.length ∧ i = .int .i64 k ∧ MineK W1.heap.size vo (blksTo p m a k) wx ∧ Below W1.heap.size W1 wx
theorem belowK2 {B : Nat} {v : Value} {L : List BK} {W w w' : World} (h : Below B W w) (hm : MineK B v L w) (hg : w.grownBy w' v.ownBlock) (hB : B ≤ w.heap.size) : Below B W w' :=
  h.trans ⟨hg.os, hg.tape, hg.output, hg.size, fun i hi => hg.block i (by omega) fun e => by have := (hm.lt e.symm).1; omega⟩
set_option maxHeartbeats 4000000 in
set_option maxRecDepth 100000 in
theorem blocks_any (v vset : Value) (p : GP) (m : List Int) (a : Int) (w : World) (h : ProgIs w v p) (hm : Ints w vset m) :
    Calls Tryz.prog 12 #[v, vset, .int .i64 a] w fun e w' => ∃ vo, e = .returned (.tuple #[vo, .int .i64 (blksX p m a).2]) ∧ MineK (w.heap.size + 1) vo (blksX p m a).1 w' ∧ Below w.heap.size w w' := by
  have hP0 := h
  obtain ⟨vn, vs, vr, vm, rfl, hps⟩ := h
  obtain ⟨am, cm, rfl, -⟩ := id hm.form
  obtain ⟨a1, c1, rfl, -, hl1, -, -⟩ := hps.rules.form
  have hpn := hps.n
  unfold InI at hpn
  have hal := bal (Below.refl w.heap.size w) (.cells #[.int .i64 p.n, vn, vs, .slice a1 p.rules.length c1, vm] 27)
  have hst : BlSt w (.slice am m.length cm) p m (.int .i64 p.n) vn vs (.slice a1 p.rules.length c1) vm (w.alloc (.cells #[.int .i64 p.n, vn, vs, .slice a1 p.rules.length c1, vm] 27)) := ⟨Blk.new w [.int .i64 p.n, vn, vs, .slice a1 p.rules.length c1, vm] _, hps.rules.below hal, hm.below hal, hal⟩
  have HS0 := Lib.hid hst
  have HP := Lib.hid (hP0.below hal)
  have hz0 : (w.alloc (.cells #[.int .i64 p.n, vn, vs, .slice a1 p.rules.length c1, vm] 27)).heap.size = w.heap.size + 1 := by simp
  have HZ0 := Lib.hid hz0
  clear hP0 hps hm hal hst hz0
  go_enter Tryz.func12, Tryz.ntmps12
  go_upto_region 1 with fail
  have kp0 := HS0.out.pbx.cell
  generalize w.alloc (.cells #[.int .i64 p.n, vn, vs, .slice a1 p.rules.length c1, vm] 27) = W0 at *
  by_cases he : xE p m = 0
  case neg =>
    have hne : (xE p m != 0) = true := by simp [he]
    have hne2 : (xE p m == 0) = false := by simp [he]
    have HF : Hid (blksX p m a = ([], xE p m)) := Lib.hid (by unfold blksX; rw [if_pos he])
    clear he
    go_wp2_with (go_at_call 37; (with_reducible refine (xcheck_any _ _ p m _ HP.out HS0.out.set).mono ?_); rintro e w1 ⟨rfl, hb1⟩)
    go_ret2
    rw [HF.out]
    exact ⟨_, rfl, MineK.nil _ _, bon HS0.out.below hb1⟩
  obtain ⟨hv, hset, hmod⟩ := xE_ok he
  have hn0 := (validP hv).n
  have hrl := (validP hv).rules
  have hml : m.length ≤ 4000 := by have := inc_le hset hn0.1; omega
  have HE := Lib.hid he
  have HV := Lib.hid hv
  have HMOD := Lib.hid hmod
  clear hv hset hmod
  by_cases hbad : a < 1 ∨ p.n < a ∨ a ∈ m
  case pos =>
    have HF : Hid (blksX p m a = ([], 2)) := Lib.hid (by unfold blksX; rw [if_neg (by simp [he]), if_pos hbad])
    clear he
    by_cases g1 : a < 1
    · clear hbad
      go_wp2_with (go_at_call 37; (with_reducible refine (xcheck_any _ _ p m _ HP.out HS0.out.set).mono ?_); rintro e w1 ⟨e1, hb1⟩; rw [HE.out] at e1; subst e1; have HS1 := Lib.hid (HS0.out.on hb1); have kp1 := HS1.out.pbx.cell; have HZ1 : Hid (w.heap.size + 1 ≤ w1.heap.size) := Lib.hid (by have := HZ0.out; have := hb1.size; omega); clear hb1)
      go_ret2
      rw [HF.out]
      exact ⟨_, rfl, MineK.nil _ _, HS1.out.below⟩
    · by_cases g2 : p.n < a
      · clear hbad
        go_wp2_with (go_at_call 37; (with_reducible refine (xcheck_any _ _ p m _ HP.out HS0.out.set).mono ?_); rintro e w1 ⟨e1, hb1⟩; rw [HE.out] at e1; subst e1; have HS1 := Lib.hid (HS0.out.on hb1); have kp1 := HS1.out.pbx.cell; have HZ1 : Hid (w.heap.size + 1 ≤ w1.heap.size) := Lib.hid (by have := HZ0.out; have := hb1.size; omega); clear hb1)
        go_ret2
        rw [HF.out]
        exact ⟨_, rfl, MineK.nil _ _, HS1.out.below⟩
      · have HIN : Hid (decide (a ∈ m) = true) := Lib.hid (decide_eq_true ((hbad.resolve_left g1).resolve_left g2))
        clear hbad
        go_wp2_with (first | (go_at_call 37; (with_reducible refine (xcheck_any _ _ p m _ HP.out HS0.out.set).mono ?_); rintro e w1 ⟨e1, hb1⟩; rw [HE.out] at e1; subst e1; have HS1 := Lib.hid (HS0.out.on hb1); have kp1 := HS1.out.pbx.cell; have HZ1 : Hid (w.heap.size + 1 ≤ w1.heap.size) := Lib.hid (by have := HZ0.out; have := hb1.size; omega); clear hb1) | (go_at_call 45; (with_reducible refine (contains_any _ m _ _ HS1.out.set).mono ?_); rintro e w2 ⟨e2, rfl⟩; rw [HIN.out] at e2; subst e2))
        go_ret2
        rw [HF.out]
        exact ⟨_, rfl, MineK.nil _ _, HS1.out.below⟩
  have hF : blksX p m a = (blksTo p m a p.rules.length, 0) := by unfold blksX; rw [if_neg (by simp [he]), if_neg hbad]
  have g1 : ¬ a < 1 := fun h => hbad (.inl h)
  have g2 : ¬ p.n < a := fun h => hbad (.inr (.inl h))
  have HIN : Hid (decide (a ∈ m) = false) := Lib.hid (decide_eq_false fun h => hbad (.inr (.inr h)))
  have HF := Lib.hid hF
  clear he hbad hF
  go_upto_region 7 with (first | (go_at_call 37; (with_reducible refine (xcheck_any _ _ p m _ HP.out HS0.out.set).mono ?_); rintro e w1 ⟨e1, hb1⟩; rw [HE.out] at e1; subst e1; have HS1 := Lib.hid (HS0.out.on hb1); have kp1 := HS1.out.pbx.cell; have HZ1 : Hid (w.heap.size + 1 ≤ w1.heap.size) := Lib.hid (by have := HZ0.out; have := hb1.size; omega); clear hb1) | (go_at_call 45; (with_reducible refine (contains_any _ m _ _ HS1.out.set).mono ?_); rintro e w2 ⟨e2, rfl⟩; rw [HIN.out] at e2; subst e2))
  clear kp0
  go_wp2
  go_loopw [9, 37] (fun vo i wx => BlRel p m a w1 vo i wx) (fun _ i _ => p.rules.length - (intOf i).toNat)
  case atStart => exact ⟨0, Nat.zero_le _, rfl, MineK.nil _ _, Below.refl _ _⟩
  case round =>
    obtain ⟨k, hk, rfl, hmo, hbl⟩ := hrel
    have hlb := blksTo_len p m a k
    obtain ⟨ao, co, rfl⟩ := hmo.slen
    have HMO := Lib.hid hmo
    have HBL := Lib.hid hbl
    have HSR := Lib.hid (HS1.out.on hbl)
    have hszr := hbl.size
    clear hmo hbl
    by_cases hlt : k < p.rules.length
    · obtain ⟨_, _, e, -, -, -, hcell⟩ := HSR.out.rul.form
      simp only [Value.slice.injEq, true_and] at e
      obtain ⟨rfl, rfl⟩ := e
      obtain ⟨b, off, rfl, hbl2, hc⟩ := hcell (by omega)
      obtain ⟨vh, vb, vw, ⟨k0, k1, k2, k3, k4, k5⟩, hsl⟩ := hc k hlt
      obtain ⟨r, hr⟩ : ∃ r, ixR p.rules k = r := ⟨_, rfl⟩
      have hbv := bodyV_valid HV.out hlt
      have hsat := allR_get HMOD.out k hlt
      have hnx : blksTo p m a (k + 1) = if a ∈ r.head then blksTo p m a k ++ [blkB r m k] else blksTo p m a k := by rw [← hr]; rfl
      rw [hr] at k0 k2 k3 hsl hbv hsat
      obtain ⟨ah, ch, rfl, -, hlh, -, -⟩ := hsl.head.form
      obtain ⟨ab, cb, rfl, -⟩ := hsl.body.form
      obtain ⟨aw, cw, rfl, -⟩ := hsl.wts.form
      have HBV := Lib.hid hbv
      have HSAT := Lib.hid hsat
      have HFT : Hid (BI (blkB r m k)) := Lib.hid (blkB_fit hsl.head.2 hsl.body.2 (by unfold InI; omega))
      have HNX := Lib.hid hnx
      have HSL := Lib.hid hsl
      clear hc hcell hr hbv hsat hnx hsl
      go_upto_region 10 with fail
      have hal3 := bal (Below.refl wr.heap.size wr) (.cells #[.bool r.choice, .slice ah r.head.length ch, .bool r.sum, .int .i64 r.bound, .slice ab r.body.length cb, .slice aw r.w.length cw] 64)
      have HS3 := Lib.hid (HSR.out.on hal3)
      have HK3 := Lib.hid (Blk.new wr [.bool r.choice, .slice ah r.head.length ch, .bool r.sum, .int .i64 r.bound, .slice ab r.body.length cb, .slice aw r.w.length cw] 64)
      have HR3 : Hid (RuleSl (wr.alloc (.cells #[.bool r.choice, .slice ah r.head.length ch, .bool r.sum, .int .i64 r.bound, .slice ab r.body.length cb, .slice aw r.w.length cw] 64)) r (.slice ah r.head.length ch) (.slice ab r.body.length cb) (.slice aw r.w.length cw)) := Lib.hid (HSL.out.below hal3)
      have HO3 := Lib.hid (HMO.out.below hal3)
      have HB3 := Lib.hid (bon HBL.out hal3)
      have kk3 := HK3.out.cell
      have hz3 : w1.heap.size ≤ (wr.alloc (.cells #[.bool r.choice, .slice ah r.head.length ch, .bool r.sum, .int .i64 r.bound, .slice ab r.body.length cb, .slice aw r.w.length cw] 64)).heap.size := by simp; omega
      clear hal3 k0 k1 k2 k3 k4 k5 hbl2
      generalize wr.alloc (.cells #[.bool r.choice, .slice ah r.head.length ch, .bool r.sum, .int .i64 r.bound, .slice ab r.body.length cb, .slice aw r.w.length cw] 64) = W3 at *
      generalize wr.heap.size = rb at *
      have HRI3 : Hid (RuleIs W3 (.agg #[.bool r.choice, .slice ah r.head.length ch, .bool r.sum, .int .i64 r.bound, .slice ab r.body.length cb, .slice aw r.w.length cw]) r) := Lib.hid ⟨_, _, _, rfl, HR3.out⟩
      by_cases hin : a ∈ r.head
      · have HH : Hid (decide (a ∈ r.head) = true) := Lib.hid (decide_eq_true hin)
        have HN2 : Hid (blksTo p m a (k + 1) = blksTo p m a k ++ [⟨k, (blkB r m 0).kind, (blkB r m 0).lit⟩]) := Lib.hid (by rw [HNX.out, if_pos hin, blkB_rule])
        have HFT2 : Hid (BI ⟨k, (blkB r m 0).kind, (blkB r m 0).lit⟩) := Lib.hid (by rw [← blkB_rule]; exact HFT.out)
        have HLN : Hid ((blksTo p m a k).length + 1 = (blksTo p m a (k + 1)).length) := Lib.hid (by rw [HN2.out]; simp)
        obtain ⟨bk0, hbk⟩ : ∃ b, blkB r m 0 = b := ⟨_, rfl⟩
        rw [hbk] at HN2 HFT2
        have HBK := Lib.hid hbk
        clear hin hbk
        go_upto_region 13 with (first
          | (go_at_call 45; (with_reducible refine (contains_any _ r.head _ _ HR3.out.head).mono ?_); rintro e w4 ⟨e4, rfl⟩; rw [HH.out] at e4; subst e4)
          | (go_at_call 47; (with_reducible refine (block_any _ _ r m p.n W3 HRI3.out HS3.out.set (by omega) HBV.out HSAT.out).mono ?_); rintro e w5 ⟨e5, hb5⟩; rw [HBK.out] at e5; have e6 : e = .returned (.agg #[.int .i64 bk0.rule, .int .u8 bk0.kind, .int .i64 bk0.lit]) := e5; subst e6; have HB5 := Lib.hid hb5; clear hb5 e5))
        have hal6 := bal HB5.out (.cells #[.int .i64 (k : Int), .int .u8 bk0.kind, .int .i64 bk0.lit] 71)
        have HS6 := Lib.hid (HS3.out.on hal6)
        have HO6 := Lib.hid (HO3.out.below hal6)
        have HB6 := Lib.hid (bon HB3.out hal6)
        have kz6 := (Blk.new w5 [.int .i64 (k : Int), .int .u8 bk0.kind, .int .i64 bk0.lit] 71).cell
        have hz6 := hal6.size
        clear hal6
        generalize w5.alloc (.cells #[.int .i64 (k : Int), .int .u8 bk0.kind, .int .i64 bk0.lit] 71) = W6 at *
        go_wp2_with (at_builtin; refine wpList_appendK rfl _ _ rfl w1.heap.size W6.heap.size _ _ (blksTo p m a k) [⟨k, bk0.kind, bk0.lit⟩] rfl rfl (HO6.out.below (bal (Below.refl _ _) _)) (MineK.one W6 HFT2.out) (by simp) (by simp; omega) (by simp; omega) ?_; intro g cap w7 hm7 hg7; have HB7 : Hid (Below w1.heap.size w1 w7) := Lib.hid (belowK2 (bal HB6.out _) (HO6.out.below (bal (Below.refl _ _) _)) hg7 (by simp; omega)); have HM7 := Lib.hid hm7; clear hm7 hg7)
        first
          | (go_roundw
             case rel => (exact ⟨k + 1, hlt, by go_num, by rw [HN2.out]; exact HM7.out, HB7.out⟩)
             case measure => (simp [intOf]; omega))
          | (refine ⟨?_, ?_⟩
             · (exact ⟨k + 1, hlt, by go_num, by rw [HN2.out]; exact HM7.out, HB7.out⟩)
             · (simp [intOf]; omega))
      · have HH : Hid (decide (a ∈ r.head) = false) := Lib.hid (decide_eq_false hin)
        have HN2 : Hid (blksTo p m a (k + 1) = blksTo p m a k) := Lib.hid (by rw [HNX.out, if_neg hin])
        clear hin
        go_wp2_with (go_at_call 45; (with_reducible refine (contains_any _ r.head _ _ HR3.out.head).mono ?_); rintro e w4 ⟨e4, rfl⟩; rw [HH.out] at e4; subst e4)
        first
          | (go_roundw
             case rel => (exact ⟨k + 1, hlt, by go_num, by rw [HN2.out]; exact HO3.out, HB3.out⟩)
             case measure => (simp [intOf]; omega))
          | (refine ⟨?_, ?_⟩
             · (exact ⟨k + 1, hlt, by go_num, by rw [HN2.out]; exact HO3.out, HB3.out⟩)
             · (simp [intOf]; omega))
    · obtain rfl : k = p.rules.length := by omega
      have hz1 : w.heap.size + 1 ≤ w1.heap.size := HZ1.out
      have HMO2 := Lib.hid (HMO.out.mono hz1)
      clear hz1
      go_wp2
      go_ret2
      rw [HF.out]
      exact ⟨_, rfl, HMO2.out, HSR.out.below⟩
structure FwSt (w : World) (c : List Value) (W : World) : Prop where
  box : Blk W w.heap.size c 27
  below : Below w.heap.size w W
theorem FwSt.on {w W W' : World} {c : List Value} (h : FwSt w c W) (hb : Below W.heap.size W W') : FwSt w c W' := ⟨h.box.below hb, bon h.below hb⟩
def itS (n : Int) : ByteArray := ⟨(Lib.itoa n).toArray⟩
def ItO (w : World) (n : Int) : Prop := ∀ W, Below w.heap.size w W → Calls Tryz.prog 49 #[.int .i64 n] W fun e W' => e = .returned (.string (itS n)) ∧ Below W.heap.size W W'
theorem ItO.below {w w' : World} {n : Int} (h : ItO w n) (hb : Below w.heap.size w w') : ItO w' n := fun W hW => h W (bon hb hW)
theorem ItO.small {w : World} {n : Int} (h : 0 ≤ n ∧ n < 100) : ItO w n := fun W _ => by
  obtain ⟨i, rfl⟩ : ∃ i : Nat, n = i := ⟨n.toNat, by omega⟩
  refine (Tryz.strconv_Itoa_small i (by omega) W).mono fun e W' ⟨h1, h2⟩ => ?_
  subst h2
  refine ⟨h1.trans ?_, Below.refl _ _⟩
  unfold itS Lib.itoa
  rw [if_neg (by omega)]
  rfl
def nameX (l : List ByteArray) (a : Int) : ByteArray := if 1 ≤ a ∧ a ≤ (l.length : Int) ∧ ixS l (a - 1).toNat ≠ ⟨#[]⟩ then ixS l (a - 1).toNat else ⟨#[35]⟩ ++ itS a
theorem bytes_nil {s : ByteArray} : s = ⟨#[]⟩ ↔ s.toList = [] := by
  constructor
  · rintro rfl; rw [Lib.toList_data]
  · intro h
    rw [Lib.toList_data] at h
    cases s with
    | mk d => cases d with
      | mk l => simp at h; subst h; rfl
set_option maxHeartbeats 1000000 in
theorem name_any (l : List ByteArray) (vn vs vr vm : Value) (n : Int) (b : Nat) (a : Int) (w : World) (ha : InI a) (hl : Strs w vn l) (hb : Blk w b [.int .i64 n, vn, vs, vr, vm] 27) (hI : ItO w a) (h100 : (itS a).size ≤ 100) :
    Calls Tryz.prog 48 #[.int .i64 a, .pointer (some ⟨b, 0, none⟩)] w fun e w' => e = .returned (.string (nameX l a)) ∧ Below w.heap.size w w' := by
  obtain ⟨an, cn, rfl, -, hl1, hl2, hsz, hat⟩ := hl.form
  have kb := hb.cell
  have hlt := hb.lt
  unfold InI at ha
  have HI := Lib.hid (hI w (Below.refl _ _))
  by_cases h1 : 1 ≤ a
  · by_cases h2 : a ≤ (l.length : Int)
    · obtain ⟨k, rfl⟩ : ∃ k : Nat, a = (k : Int) + 1 := ⟨(a - 1).toNat, by omega⟩
      have hk : k < l.length := by omega
      obtain ⟨bn, off, rfl, hbn, hcn⟩ := hat (by omega)
      have kc := hcn k hk
      have HK : Hid (((k : Int) + 1 - 1).toNat = k) := Lib.hid (by omega)
      by_cases h3 : (ixS l k).toList = []
      · have h3' : (ixS l k).toList.isEmpty = true := by rw [h3]; rfl
        have HN : Hid (nameX l ((k : Int) + 1) = ⟨#[35]⟩ ++ itS ((k : Int) + 1)) := Lib.hid (by unfold nameX; rw [HK.out, if_neg (fun h => h.2.2 (bytes_nil.2 h3))])
        clear hcn hsz hat HK
        go_enter Tryz.func48, Tryz.ntmps48
        go_wp2_with (go_at_call 49; (with_reducible refine (HI.out).mono ?_); rintro e w1 ⟨rfl, hb1⟩)
        go_ret
        exact ⟨by rw [HN.out]; rfl, hb1⟩
      · have h3' : (ixS l k).toList.isEmpty = false := by rw [List.isEmpty_eq_false_iff]; exact h3
        have HN : Hid (nameX l ((k : Int) + 1) = ixS l k) := Lib.hid (by unfold nameX; rw [HK.out, if_pos ⟨h1, h2, fun h => h3 (bytes_nil.1 h)⟩])
        clear hcn hsz hat HK
        go_enter Tryz.func48, Tryz.ntmps48
        go_wp2_with (go_at_call 49; (with_reducible refine (HI.out).mono ?_); rintro e w1 ⟨rfl, hb1⟩)
        go_ret
        exact ⟨by rw [HN.out]; rfl, Below.refl _ _⟩
    · have HN : Hid (nameX l a = ⟨#[35]⟩ ++ itS a) := Lib.hid (by unfold nameX; rw [if_neg (fun h => h2 h.2.1)])
      clear hsz hat
      go_enter Tryz.func48, Tryz.ntmps48
      go_wp2_with (go_at_call 49; (with_reducible refine (HI.out).mono ?_); rintro e w1 ⟨rfl, hb1⟩)
      go_ret
      exact ⟨by rw [HN.out]; rfl, hb1⟩
  · have HN : Hid (nameX l a = ⟨#[35]⟩ ++ itS a) := Lib.hid (by unfold nameX; rw [if_neg (fun h => h1 h.1)])
    clear hsz hat
    go_enter Tryz.func48, Tryz.ntmps48
    go_wp2_with (go_at_call 49; (with_reducible refine (HI.out).mono ?_); rintro e w1 ⟨rfl, hb1⟩)
    go_ret
    exact ⟨by rw [HN.out]; rfl, hb1⟩
abbrev BAt (B b : Nat) (p : Value) (bs : List Value) (w : World) : Prop := Lib.BuilderAtF 90 5 B b p bs w
abbrev IsB (B b : Nat) (bs : List Value) (w : World) : Prop := Lib.IsBuilderF 90 5 B b bs w
theorem infoB : (Tryz.prog.info? 5).map (fun i => (i.zero, i.size, i.bytes)) = some (some (.int .u8 0), 1, 1) := by kernel_rfl
theorem sizeB : (Tryz.prog.info? 90).map (·.size) = some 2 := by kernel_rfl
set_option maxHeartbeats 1000000 in
set_option maxRecDepth 100000 in
theorem cc_fresh (b : Nat) (w : World) (h0 : w.cell? ⟨b, 0, none⟩ = some (.pointer none)) (hsh : w.shape? b = some (90, 2)) (hfz : w.frozen? ⟨b, 0, none⟩ = false) :
    Calls Tryz.prog 102 #[.pointer (some ⟨b, 0, none⟩)] w fun e w' => e = .returned (.tuple #[]) ∧ w' = w.setCell ⟨b, 0, none⟩ (.pointer (some ⟨b, 0, none⟩)) := by
  obtain ⟨j, hj, hjs⟩ := Option.map_eq_some_iff.1 sizeB
  go_enter Tryz.func102, Tryz.ntmps102
  go_wp2
  rw [Lib.run_to_unsafe w ⟨b, 0, none⟩ Tryz.underlying87 Tryz.underlying169 hj (by rw [hjs]; decide) hsh (Nat.zero_lt_succ 1)]
  simp only [Result.andThen]
  rw [Oper.upon_value]
  go_wp2
  rw [run_callFunc_extern Tryz.func141 (by kernel_rfl) (by kernel_rfl) (by kernel_rfl) (e := Extern.AbiNoEscape.same) (by kernel_rfl)]
  rw [Lib.run_noEscape]
  simp only [Result.andThen]
  rw [Oper.upon_value]
  go_wp2
  rw [Lib.run_from_unsafe w ⟨b, 0, none⟩ Tryz.underlying169 Tryz.underlying87 hj hsh Tryz.Builder_Extra_169.toX72.liesBuilder]
  simp only [Result.andThen]
  rw [Oper.upon_value]
  go_wp2
  go_end0
  exact ⟨rfl, rfl⟩
set_option maxHeartbeats 1000000 in
set_option maxRecDepth 100000 in
theorem cc_used (b : Nat) (w : World) (h0 : w.cell? ⟨b, 0, none⟩ = some (.pointer (some ⟨b, 0, none⟩))) :
    Calls Tryz.prog 102 #[.pointer (some ⟨b, 0, none⟩)] w fun e w' => e = .returned (.tuple #[]) ∧ w' = w := by
  obtain ⟨j, hj, _⟩ := Option.map_eq_some_iff.1 sizeB
  go_enter Tryz.func102, Tryz.ntmps102
  go_wp2
  rw [Lib.run_neq_ptr_same w _ Tryz.underlying87 hj]
  go_wp2
  go_end0
  exact ⟨rfl, rfl⟩
theorem cc_any (B b : Nat) (bs : List Value) (w : World) (h : IsB B b bs w) :
    Calls Tryz.prog 102 #[.pointer (some ⟨b, 0, none⟩)] w fun e w' => e = .returned (.tuple #[]) ∧ (BAt B b (.pointer (some ⟨b, 0, none⟩)) bs w' ∧ Below B w w' ∧ Lib.OthersKept 5 (some b) w w') := by
  rcases h with h | h
  · refine (cc_fresh b w h.cell0 h.shape h.frozen0).mono ?_
    rintro e w' ⟨rfl, rfl⟩
    exact ⟨rfl, h.used _, (Below.refl B w).setCell (p := ⟨b, 0, none⟩) h.1 _, (Lib.OthersKept.refl _ _ w).setCell ⟨b, 0, none⟩ rfl _⟩
  · refine (cc_used b w h.cell0).mono ?_
    rintro e w' ⟨rfl, rfl⟩
    exact ⟨rfl, h, Below.refl B _, Lib.OthersKept.refl _ _ _⟩
set_option maxHeartbeats 2000000 in
set_option maxRecDepth 100000 in
theorem ws_any (B b : Nat) (bs : List Value) (s : ByteArray) (w : World) (h : IsB B b bs w) (hlen : bs.length + s.size ≤ 140737488355328) (hBw : B ≤ w.heap.size) :
    Calls Tryz.prog 50 #[.pointer (some ⟨b, 0, none⟩), .string s] w fun e w' => e = .returned (.tuple #[.int .i64 s.size, .nilIface]) ∧ (BAt B b (.pointer (some ⟨b, 0, none⟩)) (bs ++ Lib.strCells s) w' ∧ Below B w w' ∧ Lib.OthersKept 5 (some b) w w') := by
  obtain ⟨i0, hi, hz0, hz1, hz2⟩ := info_parts infoB
  go_enter Tryz.func50, Tryz.ntmps50
  go_wp2_with (go_at_call 102; refine (cc_any B b bs _ h).mono ?_)
  rintro e w1 ⟨rfl, h1, hb1, hk1⟩
  obtain ⟨hB, v, hbk, hown, hne⟩ := h1
  have c0 : w1.cell? ⟨b, 0, none⟩ = some (.pointer (some ⟨b, 0, none⟩)) := by rw [Lib.cell_of_heap hbk]; rfl
  have c1 : w1.cell? ⟨b, 1, none⟩ = some v := by rw [Lib.cell_of_heap hbk]; rfl
  go_wp2_with (at_builtin; refine Lib.wpList_append_own_stringF _ rfl _ _ 88 9 rfl B 5 i0 Tryz.underlying88 Tryz.underlying9 hi hz0 hz1 hz2 _ _ _ rfl hown s rfl ?c3 ?c4 ?c5 ?_)
  case c3 => unfold maxLen; omega
  case c4 => omega
  case c5 => have := hb1.size; omega
  intro v' w2 hown' hgrow _
  have hlt : b < w1.heap.size := (Array.getElem?_eq_some_iff.1 hbk).1
  have hb2 : w2.heap[b]? = some (.cells #[.pointer (some ⟨b, 0, none⟩), v] 90 (0, 0)) := by
    rw [hgrow.block b hlt (fun e => hne e.symm)]
    exact hbk
  have d0 : w2.cell? ⟨b, 0, none⟩ = some (.pointer (some ⟨b, 0, none⟩)) := by rw [Lib.cell_of_heap hb2]; rfl
  have d1 : w2.cell? ⟨b, 1, none⟩ = some v := by rw [Lib.cell_of_heap hb2]; rfl
  have f1 : w2.frozen? ⟨b, 1, none⟩ = false := Lib.frozen_of_heap hb2 1
  obtain ⟨ao, n', cap, rfl⟩ : ∃ ao n' cap, v' = .slice ao n' cap := by
    rcases hown'.2 with ⟨hv, _⟩ | ⟨g, cap, cur, fz, hv, _⟩
    · exact ⟨_, _, _, hv⟩
    · exact ⟨_, _, _, hv⟩
  go_wp2
  go_ret2
  refine ⟨rfl, ?_, ?_, (hk1.grown hgrow (Lib.ownsRowF_kind hown)).setCell ⟨b, 1, none⟩ rfl _⟩
  · exact Lib.BuilderAtF.put (T := 90) (e := 5) hB hb2 (bs' := bs ++ Lib.strCells s) (by simpa [Lib.strCells_length] using hown') (by decide)
  · exact (hb1.grown hgrow (by have := hb1.size; omega) (fun k hk => (hown.lt k hk).1)).setCell (p := ⟨b, 1, none⟩) hB _
def lineX (l : List ByteArray) (y : WY) : List UInt8 := (nameX l y.atom).data.toList ++ ([32, 98, 121, 32] ++ ((itS y.rule).data.toList ++ ([32, 108, 101, 118, 101, 108, 32] ++ ((itS y.level).data.toList ++ [10]))))
def whysT (l : List ByteArray) (ys : List WY) : List UInt8 := ys.flatMap (lineX l)
def atomsT (l : List ByteArray) (as' : List Int) : List UInt8 := as'.flatMap fun a => [32] ++ (nameX l a).data.toList
def restT (l : List ByteArray) (r : List Int) : List UInt8 := if r.length = 0 then [] else [114, 101, 115, 116] ++ (atomsT l r ++ [10])
def textX (l : List ByteArray) (x : XP) : List UInt8 := whysT l x.whys ++ restT l x.rest
theorem whysT_snoc (l : List ByteArray) (a : List WY) (y : WY) : whysT l (a ++ [y]) = whysT l a ++ lineX l y := by simp [whysT]
theorem atomsT_snoc (l : List ByteArray) (a : List Int) (y : Int) : atomsT l (a ++ [y]) = atomsT l a ++ ([32] ++ (nameX l y).data.toList) := by simp [atomsT]
def OkN (w : World) (n : Int) : Prop := ItO w n ∧ (itS n).data.toList.length ≤ 100
theorem dec_small {n : Nat} (h : n < 100) : (Lib.decDigits n).length ≤ 2 := by
  unfold Lib.decDigits
  split
  · simp
  · have : n / 10 < 10 := by omega
    unfold Lib.decDigits
    rw [dif_pos this]
    simp
theorem OkN.small {w : World} {n : Int} (h : 0 ≤ n ∧ n < 100) : OkN w n := ⟨.small h, by
  unfold itS Lib.itoa
  rw [if_neg (by omega)]
  have := dec_small (n := n.toNat) (by omega)
  simp only
  omega⟩
theorem OkN.below {w w' : World} {n : Int} (h : OkN w n) (hb : Below w.heap.size w w') : OkN w' n := ⟨h.1.below hb, h.2⟩
theorem name_len {l : List ByteArray} {a : Int} (hl : ∀ i, (ixS l i).data.toList.length ≤ 40) (ha : (itS a).data.toList.length ≤ 100) : (nameX l a).data.toList.length ≤ 101 := by
  unfold nameX
  split
  · have := hl (a - 1).toNat; omega
  · rw [ByteArray.data_append]
    simp only [Array.toList_append, List.length_append, List.length_cons, List.length_nil]
    omega
theorem flat_len {α : Type} (f : α → List UInt8) (B : Nat) : ∀ (ys : List α), (∀ y ∈ ys, (f y).length ≤ B) → (ys.flatMap f).length ≤ B * ys.length
  | [], _ => by simp
  | y :: ys, h => by
    have a := h y (.head _)
    have b := flat_len f B ys fun z hz => h z (.tail _ hz)
    simp only [List.flatMap_cons, List.length_append, List.length_cons, Nat.mul_add, Nat.mul_one]
    omega
theorem line_data (a b c : ByteArray) : (((((a ++ ⟨#[32, 98, 121, 32]⟩) ++ b) ++ ⟨#[32, 108, 101, 118, 101, 108, 32]⟩) ++ c) ++ ⟨#[10]⟩ : ByteArray).data.toList = a.data.toList ++ ([32, 98, 121, 32] ++ (b.data.toList ++ ([32, 108, 101, 118, 101, 108, 32] ++ (c.data.toList ++ [10])))) := by
  simp [ByteArray.data_append]
abbrev bcT (l : List UInt8) : List Value := Lib.byteCells l
theorem bcT_app (a b : List UInt8) : bcT (a ++ b) = bcT a ++ bcT b := by simp [bcT, Lib.byteCells]
theorem IsB.on {b : Nat} {bs : List Value} {X Y : World} (h : IsB b b bs X) (hb : Below X.heap.size X Y) : IsB b b bs Y := by
  have hg : X.grownBy Y none := ⟨hb.os, hb.tape, hb.output, hb.size, fun i hi _ => hb.block i hi⟩
  have key : ∀ p, BAt b b p bs X → BAt b b p bs Y := fun p ⟨h1, v, h2, h3, h4⟩ =>
    ⟨h1, v, (hb.block b (Array.getElem?_eq_some_iff.1 h2).1).trans h2, h3.kept hg (by cases hv : v.ownBlock <;> simp), h4⟩
  exact h.elim (fun x => .inl (key _ x)) (fun x => .inr (key _ x))
structure StT (w : World) (b : Nat) (pc xc : List Value) (t : List UInt8) (W : World) : Prop where
  bld : IsB b b (bcT t) W
  below : Below w.heap.size w W
  pbx : Blk W w.heap.size pc 27
  xbx : Blk W (w.heap.size + 1) xc 30
  lt : w.heap.size + 1 < b
theorem StT.blt {w W : World} {b : Nat} {pc xc : List Value} {t : List UInt8} (h : StT w b pc xc t W) : b < W.heap.size := h.bld.elim (·.lt) (·.lt)
theorem StT.on {w W W' : World} {b : Nat} {pc xc : List Value} {t : List UInt8} (h : StT w b pc xc t W) (hb : Below W.heap.size W W') : StT w b pc xc t W' :=
  ⟨h.bld.on hb, bon h.below hb, h.pbx.below hb, h.xbx.below hb, h.lt⟩
theorem StT.ws {w W : World} {b : Nat} {pc xc : List Value} {t : List UInt8} (h : StT w b pc xc t W) (s : List UInt8) (S : ByteArray) (hS : S.data.toList = s) (hlen : t.length + s.length ≤ 1000000) :
    Calls Tryz.prog 50 #[.pointer (some ⟨b, 0, none⟩), .string S] W fun e W' => e = .returned (.tuple #[.int .i64 S.size, .nilIface]) ∧ StT w b pc xc (t ++ s) W' := by
  have hsz : S.size = s.length := by rw [← hS, Array.length_toList]; rfl
  have hb := h.blt
  have h3 := h.lt
  refine (ws_any b b (bcT t) S W h.bld (by rw [Lib.byteCells_length, hsz]; omega) (by omega)).mono ?_
  rintro e W' ⟨rfl, h1, h2, -⟩
  have e1 : Lib.strCells S = bcT s := by rw [← hS]; rfl
  rw [e1, ← bcT_app] at h1
  exact ⟨rfl, .inr h1, h.below.trans (h2.mono (by omega)), h.pbx.same (h2.block _ (by omega)), h.xbx.same (h2.block _ (by omega)), h.lt⟩
def txΦ (a b c : ByteArray) (i : Nat) (_ : List Value) (v : Value) (_ _ : Nat) (_ : World) : Prop := (i = 3 ∧ v = .string a) ∨ (i = 7 ∧ v = .string b) ∨ (i = 12 ∧ v = .string c)
theorem runWS (args : Array Value) (w : World) : (callFunc 50 args).run Tryz.prog w = .ok (.enter 50 args) w := by kernel_rfl
def Tx1Rel (w : World) (b : Nat) (pc xc : List Value) (l : List ByteArray) (ys : List WY) (i : Value) (wx : World) : Prop := ∃ k, k ≤ ys.length ∧ i = .int .i64 k ∧ StT w b pc xc (whysT l (ys.take k)) wx
def Tx2Rel (w : World) (b : Nat) (pc xc : List Value) (l : List ByteArray) (t0 : List UInt8) (ys : List Int) (i : Value) (wx : World) : Prop := ∃ k, k ≤ ys.length ∧ i = .int .i64 k ∧ StT w b pc xc (t0 ++ atomsT l (ys.take k)) wx
end Go.Proofs.YtgakoainjgjimaaGreatDoor
