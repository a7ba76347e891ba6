/- My texts Ex4, DelX, Ex5, Pb0, PbL, App, Ex6, PbV, Cmpct, SortI, Sub, Stb1, merged. -/
import Derived.Test.YtgakoainjgjimaaGreatDoorM07
import Derived.Test.YtgakoainjgjimaaGreatDoorM05
import Derived.Test.YtgakoainjgjimaaGreatDoorM04
import Derived.Test.YtgakoainjgjimaaGreatDoorM03
import Derived.Test.YtgakoainjgjimaaGreatDoorM00
import Derived.Test.YtgakoainjgjimaaGreatDoorProg
import Derived.WalkKit
import Derived.Lib.Hide
import Derived.Deep.QuietTactic
import Derived.BigQuiet
import Derived.WalkSpells
import Derived.Lib.SliceRun
import Derived.MapKept
import Derived.Maps.OwnSet
import Derived.Maps.OwnOps
import Derived.Test.YtgakoainjgjimaaGreatDoorM02
import Derived.Test.YtgakoainjgjimaaGreatDoorM01
import Derived.Deep.AppendLies
import Derived.Lib.Bytealg
import Derived.Deep.DeepCutAuto
import Derived.Laws.EntriesVeiled
import Derived.Deep.RegionWith
import Derived.Deep.OwnRows
import Derived.Test.YtgakoainjgjimaaGreatDoorM06
import Derived.RangeFuncNested
import Derived.RangeFuncBound
import Derived.RangeFuncCalls
import Derived.RangeFuncLeaves
import Derived.OwnWalkIn
import Derived.TacticsInMore
import Derived.LoopNIn
import Derived.LoopIn
import Derived.Stop.RegionWithIn
import Derived.Shelf.Abstract
import Derived.Deep.LoopGhost
import Derived.Deep.DrawnRows
import Derived.Test.YtgakoainjgjimaaGreatDoorM08
import Derived.Shelf.Sort.Plain
import Derived.Shelf.Slices.CompactI
import Derived.Shelf.Slices.In.SortNone
import Derived.Shelf.Strconv.Itoa3
import Derived.Shelf.Strings.BuilderK
import Derived.Shelf.Slices.SearchI
import Derived.Shelf.Slices.Empties
import Derived.Deep.AppendSrc
import Derived.Lib.SlicesCompact
import Derived.Sort.OwnSortedInts

namespace Go.Proofs.YtgakoainjgjimaaGreatDoor
open Go.RowKit
def cellsY (y : WY) : List Value := [.int .i64 y.atom, .int .i64 y.rule, .int .i64 y.level]
def whyCell (y : WY) : Nat → Value
  | 0 => .int .i64 y.atom
  | 1 => .int .i64 y.rule
  | _ => .int .i64 y.level
def YI (y : WY) : Prop := InI y.atom ∧ InI y.rule ∧ InI y.level
def WhysIs (w : World) (v : Value) (l : List WY) : Prop := Rows w v 3 24 l.length (fun i => whyCell (ixY l i)) ∧ ∀ y ∈ l, YI y
theorem WhysIs.below {w w' : World} {v : Value} {l : List WY} (h : WhysIs w v l) (hb : Below w.heap.size w w') : WhysIs w' v l := ⟨h.1.below hb, h.2⟩
def WhyCells (w : World) (b o : Nat) (y : WY) : Prop := w.cell? ⟨b, o, none⟩ = some (.int .i64 y.atom) ∧ w.cell? ⟨b, o + 1, none⟩ = some (.int .i64 y.rule) ∧ w.cell? ⟨b, o + 2, none⟩ = some (.int .i64 y.level)
theorem WhyCells.below {w w' : World} {b o : Nat} {y : WY} (h : WhyCells w b o y) (hb : Below w.heap.size w w') (hl : b < w.heap.size) : WhyCells w' b o y :=
  ⟨(bcell hb _ _ hl).trans h.1, (bcell hb _ _ hl).trans h.2.1, (bcell hb _ _ hl).trans h.2.2⟩
theorem ixY_mem0 {l : List WY} {i : Nat} (hi : i < l.length) : ixY l i ∈ l := by
  simp only [ixY, List.getD_eq_getElem?_getD, List.getElem?_eq_getElem hi, Option.getD_some]
  exact List.getElem_mem hi
theorem WhysIs.form {w : World} {v : Value} {l : List WY} (h : WhysIs w v l) : ∃ a cap, v = .slice a l.length cap ∧ l.length ≤ cap ∧ l.length ≤ 1000000000000000 ∧ cap ≤ maxLen ∧
    (0 < l.length → ∃ b off, a = some ⟨b, off, none⟩ ∧ b < w.heap.size ∧ ∀ i, i < l.length → WhyCells w b (off + i * 3) (ixY l i)) := by
  obtain ⟨⟨a, cap, rfl, h1, hm, h2, h3⟩, h4⟩ := h
  refine ⟨a, cap, rfl, h1, by omega, hm, fun hp => ?_⟩
  obtain ⟨b, off, e, hl, hc⟩ := h3 hp
  exact ⟨b, off, e, hl, fun i hi => ⟨hc i hi 0 (by omega), hc i hi 1 (by omega), hc i hi 2 (by omega)⟩⟩
theorem nil_whys (w : World) : WhysIs w (.slice none 0 0) [] := ⟨⟨none, 0, rfl, Nat.le_refl _, by unfold maxLen; omega, by simp, fun h => absurd h (by simp)⟩, fun y hy => by cases hy⟩
def MineY (B : Nat) (v : Value) (l : List WY) (w : World) : Prop := w.ownsRow B 49 3 v l.length (l.flatMap cellsY) ∧ ∀ y ∈ l, YI y
theorem MineY.row {B : Nat} {v : Value} {l : List WY} {w : World} (h : MineY B v l w) : w.ownsRow B 49 3 v l.length (l.flatMap cellsY) := h.1
theorem MineY.nil (B : Nat) (w : World) : MineY B (.slice none 0 0) [] w := ⟨⟨by simp, .inl ⟨rfl, rfl⟩⟩, fun y hy => by cases hy⟩
theorem infoY : (Tryz.prog.info? 49).map (fun i => (i.zero, i.size, i.bytes)) = some (some (.agg #[.int .i64 0, .int .i64 0, .int .i64 0]), 3, 24) := by kernel_rfl
section
variable {B : Nat} {v : Value} {l : List WY} {w w' : World}
theorem MineY.slen (h : MineY B v l w) : ∃ a c, v = .slice a l.length c := by
  rcases h.1.2 with ⟨rfl, h0⟩ | ⟨g, cap, cur, rfl, _⟩
  · rw [h0]; exact ⟨_, _, rfl⟩
  · exact ⟨_, _, rfl⟩
theorem MineY.same (h : MineY B v l w) (hs : ∀ i, B ≤ i → i < w.heap.size → v.ownBlock = some i → w'.heap[i]? = w.heap[i]?) : MineY B v l w' := by
  refine ⟨⟨h.1.1, ?_⟩, h.2⟩
  rcases h.1.2 with hn | ⟨g, cap, cur, rfl, hb, hg, rest⟩
  · exact .inl hn
  · exact .inr ⟨g, cap, cur, rfl, hb, (hs g hb (Array.getElem?_eq_some_iff.1 hg).1 rfl).trans hg, rest⟩
theorem MineY.below (h : MineY B v l w) (hb : Below w.heap.size w w') : MineY B v l w' := h.same fun i _ hi _ => hb.block i hi
theorem MineY.mono {B' : Nat} (h : MineY B v l w) (hb : B' ≤ B) : MineY B' v l w := by
  refine ⟨⟨h.1.1, ?_⟩, h.2⟩
  rcases h.1.2 with hn | ⟨g, cap, cur, rfl, hg, rest⟩
  · exact .inl hn
  · exact .inr ⟨g, cap, cur, rfl, Nat.le_trans hb hg, rest⟩
theorem MineY.far (h : MineY B v l w) {b : Nat} {c : List Value} {T : TypeId} (hb : Blk w b c T) (hT : T ≠ 49) : v.ownBlock ≠ some b := fun e => by
  rcases h.1.2 with ⟨rfl, _⟩ | ⟨g, cap, cur, rfl, hg, hgg, _⟩
  · cases e
  · have : g = b := by simpa [Value.ownBlock] using e
    subst this
    unfold Blk at hb
    rw [hb] at hgg
    injection hgg with hgg
    injection hgg with _ h2 _
    exact hT h2
theorem MineY.lt (h : MineY B v l w) {g : Nat} (e : v.ownBlock = some g) : B ≤ g ∧ g < w.heap.size := by
  rcases h.1.2 with ⟨rfl, _⟩ | ⟨g', cap, cur, rfl, hb, hg, _⟩
  · cases e
  · have : g' = g := by simpa [Value.ownBlock] using e
    subst this
    exact ⟨hb, (Array.getElem?_eq_some_iff.1 hg).1⟩
theorem flatY : ∀ (L : List WY) (i j : Nat), i < L.length → j < 3 → (L.flatMap cellsY)[i * 3 + j]? = (cellsY (ixY L i))[j]?
  | [], i, j, h, _ => absurd h (by simp)
  | q :: L, 0, j, _, hj => by
    rw [List.flatMap_cons, List.getElem?_append_left (by simp [cellsY]; omega)]
    simp [ixY]
  | q :: L, i + 1, j, h, hj => by
    rw [List.flatMap_cons, List.getElem?_append_right (by simp [cellsY]; omega)]
    have := flatY L i j (by simpa using h) hj
    rw [show (i + 1) * 3 + j - (cellsY q).length = i * 3 + j by simp [cellsY]; omega, this]
    simp [ixY]
theorem MineY.whys (h : MineY B v l w) (hfit : l.length * 24 ≤ 140737488351232) : WhysIs w v l := by
  refine ⟨?_, h.2⟩
  rcases h.1.2 with ⟨rfl, h0⟩ | ⟨g, cap, cur, rfl, hb, hg, hn, hm, hs, hx⟩
  · exact ⟨none, 0, by rw [h0], by omega, by unfold maxLen; omega, by omega, fun hp => by omega⟩
  · refine ⟨_, cap, rfl, hn, hm, hfit, fun _ => ⟨g, 0, rfl, (Array.getElem?_eq_some_iff.1 hg).1, fun i hi j hj => ?_⟩⟩
    have h6 := flatY l i j hi hj
    rw [← hx, List.getElem?_take_of_lt (by omega)] at h6
    rw [cell_of_row w g (0 + i * 3 + j) cur _ (0, 0) hg, Nat.zero_add]
    have : cur[i * 3 + j]? = cur.toList[i * 3 + j]? := by simp
    rw [this, h6]
    rcases (show j = 0 ∨ j = 1 ∨ j = 2 by omega) with rfl | rfl | rfl <;> rfl
theorem MineY.at {a : Option Addr} {n c k : Nat} (h : MineY B (.slice a n c) l w) (hfit : l.length * 24 ≤ 140737488351232) (hk : k < l.length) : ∃ b off, a = some ⟨b, off, none⟩ ∧ b < w.heap.size ∧ WhyCells w b (off + k * 3) (ixY l k) := by
  obtain ⟨a1, c1, e, -, -, -, hc⟩ := (h.whys hfit).form
  simp only [Value.slice.injEq] at e
  obtain ⟨rfl, -, rfl⟩ := e
  obtain ⟨b, off, e, hb, hcc⟩ := hc (by omega)
  exact ⟨b, off, e, hb, hcc k hk⟩
theorem MineY.one (w : World) {y : WY} (hy : YI y) : MineY w.heap.size (.slice (some ⟨w.heap.size, 0, none⟩) 1 1) [y] (w.alloc (.cells #[.int .i64 y.atom, .int .i64 y.rule, .int .i64 y.level] 49)) := by
  refine ⟨⟨by simp [cellsY], .inr ⟨w.heap.size, 1, _, rfl, Nat.le_refl _, heap_alloc_new w _, by simp, by unfold maxLen; omega, by simp, by simp [cellsY]⟩⟩, fun z hz => ?_⟩
  obtain rfl : z = y := by simpa using hz
  exact hy
end
theorem wpList_appendY {ops : Array Oper} {rest : List Oper} {o : Oper} {a : Act} {w : World} {Q : Exit → Act → World → Prop} (hgd : o.guard = none) (s x : Operand)
    (ho : o.op = .call { callee := .builtin .append, args := #[s, x], argTypes := #[28, 28] }) (B b0 : Nat) (v y : Value) (L M : List WY) (hs : a.eval s = v) (hx : a.eval x = y) (h : MineY B v L w) (hy : MineY b0 y M w) (hM : 0 < M.length)
    (hlen : L.length + M.length ≤ 1000000000) (hbase : B ≤ w.heap.size)
    (hK : ∀ g cap w', MineY B (.slice (some ⟨g, 0, none⟩) (L.length + M.length) cap) (L ++ M) w' → w.grownBy w' v.ownBlock → wpList Tryz.prog ops Q rest (a.put o.dst (.slice (some ⟨g, 0, none⟩) (L.length + M.length) cap)) w') : wpList Tryz.prog ops Q (o :: rest) a w := by
  obtain ⟨i0, hi, hz0, hz1, hz2⟩ := info_parts infoY
  rcases hy.1.2 with ⟨-, h0⟩ | ⟨g, cap, cur, rfl, hb, hg, hn, hm, hsz, hcl⟩
  · omega
  refine wpList_append_own w hgd s x _ ho B 49 i0 _ 3 24 Tryz.underlying28 hi hz0 hz1 hz2 rfl (by decide) _ L.length (L.flatMap cellsY) hs h.1 ⟨g, 0, none⟩ M.length cap (M.flatMap cellsY) hx (by rw [hy.1.1]) (fun j u hu => ?_) (fun u hu => ?_) (by unfold maxLen; omega) (by omega) hbase (fun v' w' h1 h2 _ => ?_)
  · have hj : j < M.length * 3 := by have := (List.getElem?_eq_some_iff.1 hu).1; rw [hy.1.1] at this; exact this
    rw [Addr.add_lit, Nat.zero_add, cell_of_row w g j cur _ (0, 0) hg]
    rw [← hcl, List.getElem?_take_of_lt hj] at hu
    rw [← hu]; simp
  · obtain ⟨q, hqm, hq⟩ := List.mem_flatMap.1 hu
    simp only [cellsY, List.mem_cons, List.not_mem_nil, or_false] at hq
    rcases hq with rfl | rfl | rfl <;> rfl
  · have hne : ∃ g2 cap2, v' = .slice (some ⟨g2, 0, none⟩) (L.length + M.length) cap2 := by
      rcases h1.2 with ⟨-, h0⟩ | ⟨g2, cap2, cur2, rfl, _⟩
      · omega
      · exact ⟨g2, cap2, rfl⟩
    obtain ⟨g2, cap2, rfl⟩ := hne
    refine hK g2 cap2 w' ⟨by simpa using h1, fun q hq => ?_⟩ h2
    rcases List.mem_append.1 hq with hq | hq
    · exact h.2 q hq
    · exact hy.2 q hq
def ExplIs (w : World) (v : Value) (x : XP) : Prop := ∃ vw vr, v = .agg #[vw, vr] ∧ WhysIs w vw x.whys ∧ Ints w vr x.rest
theorem ExplIs.below {w w' : World} {v : Value} {x : XP} (h : ExplIs w v x) (hb : Below w.heap.size w w') : ExplIs w' v x := let ⟨a, b, e, h1, h2⟩ := h; ⟨a, b, e, h1.below hb, h2.below hb⟩
set_option maxHeartbeats 1000000 in
theorem idx_xp2 (v : Value) (l : List Int) (w : World) (h : Ints w v l) (g : Nat → Bool) (k1 : Value)
    (hg : ∀ w', Below w.heap.size w w' → ∀ j, j < l.length → Calls Tryz.prog 43 #[.int .i64 (ix l j), k1] w' fun e w'' => e = .returned (.bool (g j)) ∧ Below w'.heap.size w' w'') :
    Calls Tryz.prog 90 #[v, .func (.func 43) #[] #[k1]] w fun e w' => ∃ r, e = .returned (.int .i64 r) ∧ IxP l.length g r ∧ Below w.heap.size w w' := by
  obtain ⟨a1, c1, rfl, -, hl1, -, hcell⟩ := h.form
  have HG := Lib.hid hg
  clear h hg
  go_enter Tryz.func90, Tryz.ntmps90
  go_wp2
  go_loopw [8] (fun i wx => IxR l.length g w i wx) (fun i _ => l.length - (intOf i).toNat)
  case atStart => exact ⟨0, by omega, rfl, fun j hj => absurd hj (Nat.not_lt_zero _), Below.refl _ _⟩
  case round =>
    obtain ⟨k, hk, rfl, hall, hb⟩ := hrel
    have HA := Lib.hid hall
    clear hall
    by_cases hlt : k < l.length
    · obtain ⟨b, off, rfl, hbl, hc⟩ := hcell (by omega)
      have hk1 := (bcell hb _ _ hbl).trans (hc k hlt)
      clear hc hcell
      cases g1 : g k with
      | true =>
        have HK : Hid (_ = true) := Lib.hid g1
        have HC := Lib.hid (HG.out _ hb k hlt)
        rw [g1] at HC
        clear g1
        go_wp2_with (go_at_call 43; refine (HC.out).mono ?_; rintro e w1 ⟨rfl, hb1⟩)
        go_ret
        exact ⟨_, rfl, .inr ⟨k, hlt, rfl, HK.out, HA.out⟩, bon hb hb1⟩
      | false =>
        have HN := Lib.hid (lt_succ_all HA.out g1)
        have HC := Lib.hid (HG.out _ hb k hlt)
        rw [g1] at HC
        clear g1
        go_wp2_with (go_at_call 43; refine (HC.out).mono ?_; rintro e w1 ⟨rfl, hb1⟩)
        first
          | (go_roundw
             case rel => (exact ⟨k + 1, by omega, by go_num, HN.out, bon hb hb1⟩)
             case measure => (simp [intOf]; omega))
          | (refine ⟨?_, ?_⟩
             · (exact ⟨k + 1, by omega, by go_num, HN.out, bon hb hb1⟩)
             · (simp [intOf]; omega))
    · have HN : Hid (∀ j, j < l.length → g j = false) := Lib.hid (fun j hj => HA.out j (by omega))
      go_wp2
      go_ret
      exact ⟨_, rfl, .inl ⟨rfl, HN.out⟩, hb⟩
set_option maxHeartbeats 4000000 in
set_option maxRecDepth 100000 in
theorem delf_xp2 (l : List Int) (g c : Nat) (D : List Value) (w : World) (hb : Blk w g D 3) (hcell : ∀ k, k < l.length → D[k]? = some (.int .i64 (ix l k))) (hfit : Fits l) (hn : l.length ≤ c ∧ c ≤ D.length ∧ c ≤ maxLen) (hl8 : l.length * 8 ≤ 140737488351232)
    (q : Int → Bool) (k1 : Value) (hq : ∀ w', Lim w.heap.size [g] w w' → ∀ j, j < l.length → Calls Tryz.prog 43 #[.int .i64 (ix l j), k1] w' fun e w'' => e = .returned (.bool (q (ix l j))) ∧ Below w'.heap.size w' w'') :
    Calls Tryz.prog 42 #[.slice (some ⟨g, 0, none⟩) l.length c, .func (.func 43) #[] #[k1]] w fun e w' => e = .returned (.slice (some ⟨g, 0, none⟩) (keepF q l l.length).length c) ∧ (∃ D', Blk w' g D' 3 ∧ D'.length = D.length ∧ (∀ k, k < (keepF q l l.length).length → D'[k]? = some (.int .i64 (ix (keepF q l l.length) k))) ∧ Fits (keepF q l l.length)) ∧ Lim w.heap.size [g] w w' := by
  have hint : Ints w (.slice (some ⟨g, 0, none⟩) l.length c) l := ⟨⟨_, _, rfl, hn.1, hn.2.2, hl8, fun _ => ⟨g, 0, rfl, hb.lt, fun i hi => by rw [Nat.zero_add, hb.cell]; exact hcell i hi⟩⟩, hfit⟩
  have HI := Lib.hid (idx_xp2 _ l w hint (fun j => q (ix l j)) k1 (fun w' hb' j hj => hq w' (.of_below hb' (Nat.le_refl _)) j hj))
  have HQ := Lib.hid hq
  have HB := Lib.hid hb
  have HC := Lib.hid hcell
  have HFT := Lib.hid hfit
  have hglt := hb.lt
  clear hint hq hb hcell hfit
  go_enter Tryz.func42, Tryz.ntmps42
  go_upto_region 2 with (go_at_call 90; (with_reducible refine (HI.out).mono ?_); rintro e w1 ⟨r, rfl, hr, hb1⟩; have HR := Lib.hid hr; have HB1 := Lib.hid hb1; clear hr hb1)
  rcases HR.out with ⟨rfl, hnone⟩ | ⟨i0, hi0, rfl, hq0, hbef⟩
  · have HK : Hid (keepF q l l.length = l) := Lib.hid (by rw [keepF_none _ (Nat.le_refl _) hnone, List.take_length])
    clear hnone
    go_wp2_with fail
    go_ret
    exact ⟨by rw [HK.out]; rfl, ⟨D, HB.out.below HB1.out, rfl, by rw [HK.out]; exact HC.out, by rw [HK.out]; exact HFT.out⟩, .of_below HB1.out (Nat.le_refl _)⟩
  · have hk0 : keepF q l i0 = l.take i0 := keepF_none i0 (by omega) hbef
    have hk1 : keepF q l (i0 + 1) = l.take i0 := by rw [keepF_succ hi0, if_pos (show q (ix l i0) = true from hq0)]; exact hk0
    have hst : DelSt w g q l D.length (i0 + 1) w1 := ⟨D, rfl, HB.out.below HB1.out, fun k hk => by
      rw [hk1] at hk ⊢
      simp only [List.length_take] at hk
      rw [HC.out k (by omega)]
      congr 2
      simp [ix, show k < i0 by omega], fun k _ hk => HC.out k hk, .of_below HB1.out (Nat.le_refl _)⟩
    have HST := Lib.hid hst
    have HLE : Hid ((keepF q l (i0 + 1)).length = i0) := Lib.hid (by rw [hk1, List.length_take]; omega)
    clear hst hk0 hk1 hq0 hbef HR HI
    have hi0m : ((i0 : Int) == -1) = false := by simp
    have hlen63 : l.length ≤ 1000000000000000 := by omega
    go_upto_region 5 with fail
    go_loopw [5, 6] (fun i j wx => DelRel w g q l D.length i j wx) (fun _ j _ => l.length - (intOf j).toNat)
    case atStart => exact ⟨i0 + 1, by omega, by go_num, by rw [HLE.out], by rw [HLE.out]; omega, HST.out⟩
    case round =>
      obtain ⟨jj, hjj, rfl, rfl, hlt0, hst⟩ := hrel
      have HS := Lib.hid hst
      obtain ⟨D1, hd1, hd2, hd3, hd4, hd5⟩ := hst
      have hN : l.length ≤ D.length := by omega
      by_cases hltj : jj < l.length
      · have kv := (hd2.cell jj).trans (hd4 jj (Nat.le_refl _) hltj)
        have hil : (keepF q l jj).length < D1.length := by omega
        have HCL := Lib.hid (HQ.out wr hd5 jj hltj)
        have HD2 := Lib.hid hd2
        have HSUC := Lib.hid (keepF_succ (q := q) hltj)
        clear hd2 hd3 hd4 hd5
        cases hqv : q (ix l jj) with
        | true =>
          rw [hqv] at HCL HSUC
          have HSU2 : Hid (keepF q l (jj + 1) = keepF q l jj) := Lib.hid (by rw [HSUC.out]; rfl)
          go_wp2_with (go_at_call 43; (with_reducible refine (HCL.out).mono ?_); rintro e w2 ⟨rfl, hb2⟩; have HNX := Lib.hid ((HS.out.on hb2).drop hltj hqv); clear hb2)
          first
            | (go_roundw
               case rel => (exact ⟨jj + 1, by omega, by go_num, by rw [HSU2.out], by rw [HSU2.out]; omega, HNX.out⟩)
               case measure => (simp [intOf]; omega))
            | (refine ⟨?_, ?_⟩
               · (exact ⟨jj + 1, by omega, by go_num, by rw [HSU2.out], by rw [HSU2.out]; omega, HNX.out⟩)
               · (simp [intOf]; omega))
        | false =>
          rw [hqv] at HCL HSUC
          have HSU2 : Hid ((keepF q l (jj + 1)).length = (keepF q l jj).length + 1) := Lib.hid (by rw [HSUC.out]; simp)
          go_wp2_with (go_at_call 43; (with_reducible refine (HCL.out).mono ?_); rintro e w2 ⟨rfl, hb2⟩; have HNX := Lib.hid ((HS.out.on hb2).keep hltj hN hqv); have hd2' := HD2.out.below hb2; have ks : w2.cell? ⟨g, (keepF q l jj).length, none⟩ = some (D1[(keepF q l jj).length]) := (hd2'.cell _).trans (List.getElem?_eq_getElem hil); have fs := hd2'.free (keepF q l jj).length; clear hb2 hd2')
          first
            | (go_roundw
               case rel => (exact ⟨jj + 1, by omega, by go_num, by rw [HSU2.out]; go_num, by rw [HSU2.out]; omega, HNX.out⟩)
               case measure => (simp [intOf]; omega))
            | (refine ⟨?_, ?_⟩
               · (exact ⟨jj + 1, by omega, by go_num, by rw [HSU2.out]; go_num, by rw [HSU2.out]; omega, HNX.out⟩)
               · (simp [intOf]; omega))
      · obtain rfl : jj = l.length := by omega
        obtain ⟨fi, hfi⟩ : ∃ fi, fi = (keepF q l l.length).length := ⟨_, rfl⟩
        have HFI := Lib.hid hfi
        rw [← hfi] at hlt0 ⊢
        have hcl : ∀ ty c', (Builtin.clear_ #[23] ty #[.slice (some ⟨g, fi, none⟩) (l.length - fi) c']).run Tryz.prog wr = .ok (.tuple #[]) (wr.setCells g fi (List.replicate (l.length - fi) (.int .i64 0))) := fun ty c' =>
          Lib.run_clear_slice wr 23 3 ty (.int .i64 0) Tryz.underlying23 (fun w => Tryz.zeroValue3 w) rfl rfl g fi (l.length - fi) c' (by omega) (fun j hj => by rw [hd2.cell, List.getElem?_eq_getElem (by omega)]; rfl) (fun j hj => hd2.free _)
        clear hfi hd2 hd3 hd4 hd5
        go_wp2_with fail
        go_ret
        obtain ⟨D2, d1, d2, d3, -, d5⟩ := HS.out
        obtain ⟨D3, e1, e2, e3⟩ := blk_setCells (List.replicate (l.length - fi) (.int .i64 0)) fi D2 wr d2
        rw [← HFI.out] at d3
        refine ⟨by rw [← HFI.out]; rfl, ⟨D3, e1, by omega, fun i hi => ?_, fits_of (fun x hx => ?_)⟩, lim_setCells (by simp) _ _ _ d5⟩
        · rw [← HFI.out] at hi
          rw [e3 i hi]
          exact d3 i hi
        · have hm : x ∈ l := by
            unfold keepF at hx
            exact List.mem_of_mem_take (List.mem_filter.1 hx).1
          obtain ⟨k, hk, rfl⟩ := mem_ix.1 hm
          exact HFT.out k
structure DvF (w : World) (bd ib mb lb : Nat) (m lv : List Int) : Prop where
  fn : Blk w bd [.func (.func 88) #[] #[.pointer (some ⟨ib, 0, none⟩), .pointer (some ⟨lb, 0, none⟩)]] 76
  inf : InF w ib mb m
  lvs : ∃ v, Blk w lb [v] 23 ∧ Ints w v lv
theorem DvF.below {w w' : World} {bd ib mb lb : Nat} {m lv : List Int} (h : DvF w bd ib mb lb m lv) (hb : Below w.heap.size w w') : DvF w' bd ib mb lb m lv :=
  ⟨h.fn.below hb, h.inf.below hb, let ⟨v, h1, h2⟩ := h.lvs; ⟨v, h1.below hb, h2.below hb⟩⟩
set_option maxHeartbeats 1000000 in
theorem deriver_any (vm vl : Value) (m : List Int) (w : World) (hm : Ints w vm m) (hvl : ∃ a n c, vl = .slice a n c) :
    Calls Tryz.prog 38 #[vm, vl] w fun e w' => e = .returned (.func (.func 88) #[] #[.pointer (some ⟨w.heap.size + 2, 0, none⟩), .pointer (some ⟨w.heap.size + 1, 0, none⟩)]) ∧
      Blk w' (w.heap.size + 2) [.func (.func 86) #[] #[.pointer (some ⟨w.heap.size, 0, none⟩)]] 82 ∧ Blk w' w.heap.size [vm] 23 ∧ Blk w' (w.heap.size + 1) [vl] 23 ∧ Below w.heap.size w w' := by
  obtain ⟨a1, c1, rfl, -⟩ := id hm.form
  obtain ⟨a2, n2, c2, rfl⟩ := hvl
  have hal := bal (bal (bal (Below.refl w.heap.size w) (.cells #[.slice a1 m.length c1] 23)) (.cells #[.slice a2 n2 c2] 23)) (.cells #[.func (.func 86) #[] #[.pointer (some ⟨w.heap.size, 0, none⟩)]] 82)
  have h1 : Blk (((w.alloc (.cells #[.slice a1 m.length c1] 23)).alloc (.cells #[.slice a2 n2 c2] 23)).alloc (.cells #[.func (.func 86) #[] #[.pointer (some ⟨w.heap.size, 0, none⟩)]] 82)) w.heap.size [.slice a1 m.length c1] 23 := ((Blk.new w [.slice a1 m.length c1] 23).alloc _).alloc _
  have h2 : Blk (((w.alloc (.cells #[.slice a1 m.length c1] 23)).alloc (.cells #[.slice a2 n2 c2] 23)).alloc (.cells #[.func (.func 86) #[] #[.pointer (some ⟨w.heap.size, 0, none⟩)]] 82)) (w.heap.size + 1) [.slice a2 n2 c2] 23 := (Blk.new2 w _ [.slice a2 n2 c2] 23).alloc _
  have h3 : Blk (((w.alloc (.cells #[.slice a1 m.length c1] 23)).alloc (.cells #[.slice a2 n2 c2] 23)).alloc (.cells #[.func (.func 86) #[] #[.pointer (some ⟨w.heap.size, 0, none⟩)]] 82)) (w.heap.size + 2) [.func (.func 86) #[] #[.pointer (some ⟨w.heap.size, 0, none⟩)]] 82 := Blk.newAt _ _ _ (by simp)
  have HQ := Lib.hid (And.intro h3 (And.intro h1 (And.intro h2 hal)))
  clear hm hal h1 h2 h3
  go_enter Tryz.func38, Tryz.ntmps38
  go_wp2
  go_ret
  exact ⟨rfl, HQ.out⟩
theorem dvOk_valid {p : GP} (h : validE p = 0) {k : Nat} (hk : k < p.rules.length) : DvOk (ixR p.rules k) where
  ok := bodyOk_valid h hk
  nz := fun j hj => (ordered_lit ((validP h).body k hk) (ix_mem hj)).1
  bd := fun hs => by have := (rule_parts (ruleE_at h hk)).2 hs; omega
theorem xp1_any (vr : Value) (r : GR) (a : Int) (k : Nat) (m lv : List Int) (bd ib mb lb ab kb : Nat) (w : World) (hr : RuleIs w vr r) (hd : DvF w bd ib mb lb m lv) (ha : Blk w ab [.int .i64 a] 3) (hk : Blk w kb [.int .i64 (k : Int)] 3) (hk1 : 1 ≤ k ∧ k ≤ 100000)
    (hok : DvOk r) (hm : ∀ x ∈ m, 1 ≤ x ∧ x < lv.length) :
    Calls Tryz.prog 41 #[vr, .pointer (some ⟨bd, 0, none⟩), .pointer (some ⟨ab, 0, none⟩), .pointer (some ⟨kb, 0, none⟩)] w fun e w' => e = .returned (.bool (derT (lvT m lv ((k : Int) - 1)) m r a)) ∧ Below w.heap.size w w' := by
  have hr0 := hr
  obtain ⟨vh, vb, vw, rfl, -⟩ := hr
  obtain ⟨v, h1, h2⟩ := hd.lvs
  have hal := bal (Below.refl w.heap.size w) (.cells #[.bool r.choice, vh, .bool r.sum, .int .i64 r.bound, vb, vw] 64)
  have kd := (hd.fn.below hal).cell 0
  have ka := (ha.below hal).cell 0
  have kk := (hk.below hal).cell 0
  have kr := (Blk.new w [.bool r.choice, vh, .bool r.sum, .int .i64 r.bound, vb, vw] 64).cell
  have HR := Lib.hid (hr0.below hal)
  have HI := Lib.hid (hd.inf.below hal)
  have HL := Lib.hid (h1.below hal)
  have HV := Lib.hid (h2.below hal)
  have HOK := Lib.hid hok
  have HM := Lib.hid hm
  have HAL := Lib.hid hal
  clear hr0 hd h1 h2 ha hk hok hm hal
  go_enter Tryz.func41, Tryz.ntmps41
  go_upto_region 1 with fail
  generalize w.alloc (.cells #[.bool r.choice, vh, .bool r.sum, .int .i64 r.bound, vb, vw] 64) = W at *
  go_wp2_with (go_at_call 88; (with_reducible refine (der_any _ r a _ m lv ib lb mb v W HR.out HI.out HL.out HV.out HOK.out HM.out).mono ?_); rintro e w1 ⟨rfl, hb1⟩)
  go_ret
  exact ⟨rfl, bon HAL.out hb1⟩
set_option maxHeartbeats 1000000 in
theorem idxR_xp1 (v : Value) (l : List GR) (w : World) (h : RulesIs w v l) (g : Nat → Bool) (k1 k2 k3 : Value)
    (hg : ∀ w', Below w.heap.size w w' → ∀ j, j < l.length → ∀ u, RuleIs w' u (ixR l j) → Calls Tryz.prog 41 #[u, k1, k2, k3] w' fun e w'' => e = .returned (.bool (g j)) ∧ Below w'.heap.size w' w'') :
    Calls Tryz.prog 40 #[v, .func (.func 41) #[] #[k1, k2, k3]] w fun e w' => ∃ r, e = .returned (.int .i64 r) ∧ IxP l.length g r ∧ Below w.heap.size w w' := by
  obtain ⟨a1, c1, rfl, -, hl1, -, hcell⟩ := h.form
  have HG := Lib.hid hg
  clear h hg
  go_enter Tryz.func40, Tryz.ntmps40
  go_wp2
  go_loopw [8] (fun i wx => IxR l.length g w i wx) (fun i _ => l.length - (intOf i).toNat)
  case atStart => exact ⟨0, by omega, rfl, fun j hj => absurd hj (Nat.not_lt_zero _), Below.refl _ _⟩
  case round =>
    obtain ⟨k, hk, rfl, hall, hb⟩ := hrel
    have HA := Lib.hid hall
    clear hall
    by_cases hlt : k < l.length
    · obtain ⟨b, off, rfl, hbl, hc⟩ := hcell (by omega)
      obtain ⟨vh, vb, vw, ⟨k0, k1, k2, k3, k4, k5⟩, hsl⟩ := hc k hlt
      have hbr := hsl.below hb
      have hk0 := (bcell hb _ _ hbl).trans k0
      have hk1 := (bcell hb _ _ hbl).trans k1
      have hk2 := (bcell hb _ _ hbl).trans k2
      have hk3 := (bcell hb _ _ hbl).trans k3
      have hk4 := (bcell hb _ _ hbl).trans k4
      have hk5 := (bcell hb _ _ hbl).trans k5
      have HRU : Hid (RuleIs wr (.agg #[.bool (ixR l k).choice, vh, .bool (ixR l k).sum, .int .i64 (ixR l k).bound, vb, vw]) (ixR l k)) := Lib.hid ⟨vh, vb, vw, rfl, hbr⟩
      clear hc hcell k0 k1 k2 k3 k4 k5 hsl hbr
      cases g1 : g k with
      | true =>
        have HK : Hid (_ = true) := Lib.hid g1
        have HC := Lib.hid (HG.out _ hb k hlt _ HRU.out)
        rw [g1] at HC
        clear g1
        go_wp2_with (go_at_call 41; refine (HC.out).mono ?_; rintro e w1 ⟨rfl, hb1⟩)
        go_ret
        exact ⟨_, rfl, .inr ⟨k, hlt, rfl, HK.out, HA.out⟩, bon hb hb1⟩
      | false =>
        have HN := Lib.hid (lt_succ_all HA.out g1)
        have HC := Lib.hid (HG.out _ hb k hlt _ HRU.out)
        rw [g1] at HC
        clear g1
        go_wp2_with (go_at_call 41; refine (HC.out).mono ?_; rintro e w1 ⟨rfl, hb1⟩)
        first
          | (go_roundw
             case rel => (exact ⟨k + 1, by omega, by go_num, HN.out, bon hb hb1⟩)
             case measure => (simp [intOf]; omega))
          | (refine ⟨?_, ?_⟩
             · (exact ⟨k + 1, by omega, by go_num, HN.out, bon hb hb1⟩)
             · (simp [intOf]; omega))
    · have HN : Hid (∀ j, j < l.length → g j = false) := Lib.hid (fun j hj => HA.out j (by omega))
      go_wp2
      go_ret
      exact ⟨_, rfl, .inl ⟨rfl, HN.out⟩, hb⟩
theorem xp2_any (x : Int) (lv : List Int) (bl : Nat) (w : World) (h : ∃ v, Blk w bl [v] 23 ∧ Ints w v lv) (hx : 0 ≤ x ∧ x < lv.length) :
    Calls Tryz.prog 43 #[.int .i64 x, .pointer (some ⟨bl, 0, none⟩)] w fun e w' => e = .returned (.bool (decide (0 < ix lv x.toNat))) ∧ Below w.heap.size w w' := by
  obtain ⟨v, h1, h2⟩ := h
  obtain ⟨a1, c1, rfl, -⟩ := id h2.form
  obtain ⟨b, off, rfl, -, hc⟩ := h2.at (show x.toNat < lv.length by omega)
  have kb := h1.cell 0
  clear h1 h2
  go_enter Tryz.func43, Tryz.ntmps43
  go_wp2
  go_ret
  exact ⟨rfl, Below.refl _ _⟩
end Go.Proofs.YtgakoainjgjimaaGreatDoor
namespace Go.Proofs.YtgakoainjgjimaaGreatDoor
structure PBC where
  lits : List Int
  coefs : List Int
  bound : Int
  deriving Inhabited, DecidableEq
def plitB (l : Int) : Bool := decide (l ≠ 0 ∧ -65536 ≤ l ∧ l ≤ 65536)
def byTo (L K : List Int) (v : Int) : Nat → Int
  | 0 => 0
  | i + 1 => byTo L K v i + (if ix L i = v then ix K i else if ix L i = -v then -ix K i else 0)
def negTo (L K : List Int) : Nat → Int
  | 0 => 0
  | i + 1 => negTo L K i + (if ix L i < 0 then ix K i else 0)
def insK (v : Int) : List Int → List Int
  | [] => [v]
  | x :: l => if v < x then v :: x :: l else if v = x then x :: l else x :: insK v l
def keysOf : List Int → List Int
  | [] => []
  | l :: L => insK (l.natAbs : Int) (keysOf L)
def sumI (f : Int → Int) : List Int → Int
  | [] => 0
  | x :: l => f x + sumI f l
def lowI (x : Int) : Int := if x < 0 then x else 0
def absI (x : Int) : Int := if x < 0 then -x else x
def minI (x y : Int) : Int := if x ≤ y then x else y
def litOf (by' : Int → Int) (v : Int) : Int := if by' v < 0 then -v else v
def pokAt (L K : List Int) (i : Nat) : Bool := plitB (ix L i) && decide (-16777216 ≤ ix K i ∧ ix K i ≤ 16777216)
def normC (by' : Int → Int) (V : List Int) (bd : Int) : PBC × Int :=
  if bd ≤ 0 then (⟨[], [], 0⟩, 0)
  else if sumI (fun v => minI (absI (by' v)) bd) V < bd then (⟨[], [], 1⟩, 0)
  else if 16777216 < bd then (⟨[], [], 0⟩, 3)
  else (⟨V.map (litOf by'), V.map (fun v => minI (absI (by' v)) bd), bd⟩, 0)
def normP (L K : List Int) (B : Int) : PBC × Int :=
  if L.length ≠ K.length ∨ 65536 < L.length ∨ B < -1099511627776 ∨ 1099511627776 < B then (⟨[], [], 0⟩, 2)
  else if allR L.length (pokAt L K) = false then (⟨[], [], 0⟩, 2)
  else normC (fun v => byTo L K v L.length) ((keysOf L).filter fun v => byTo L K v L.length != 0) (B - negTo L K L.length - sumI (fun v => lowI (byTo L K v L.length)) (keysOf L))
theorem mem_insK {v x : Int} : ∀ {l : List Int}, x ∈ insK v l ↔ x = v ∨ x ∈ l
  | [] => by simp [insK]
  | y :: l => by
    unfold insK
    split
    · simp
    · split
      · rename_i h; subst h; simp
      · rw [List.mem_cons, mem_insK, List.mem_cons]
        constructor
        · rintro (h | h | h)
          · exact .inr (.inl h)
          · exact .inl h
          · exact .inr (.inr h)
        · rintro (h | h | h)
          · exact .inr (.inl h)
          · exact .inl h
          · exact .inr (.inr h)
theorem insK_sorted {v : Int} : ∀ {l : List Int}, l.Pairwise (· < ·) → (insK v l).Pairwise (· < ·)
  | [], _ => by simp [insK]
  | y :: l, h => by
    obtain ⟨h1, h2⟩ := List.pairwise_cons.1 h
    unfold insK
    split
    · rename_i hv
      refine List.pairwise_cons.2 ⟨fun z hz => ?_, h⟩
      rcases List.mem_cons.1 hz with rfl | hz
      · exact hv
      · have := h1 z hz; omega
    · split
      · exact h
      · rename_i hv hne
        refine List.pairwise_cons.2 ⟨fun z hz => ?_, insK_sorted h2⟩
        rcases mem_insK.1 hz with rfl | hz
        · omega
        · exact h1 z hz
theorem keys_sorted : ∀ L : List Int, (keysOf L).Pairwise (· < ·)
  | [] => by simp [keysOf]
  | _ :: L => insK_sorted (keys_sorted L)
theorem sorted_nodup {l : List Int} (h : l.Pairwise (· < ·)) : l.Nodup := h.imp fun h => Int.ne_of_lt h
theorem sorted_eqP : ∀ {a b : List Int}, a.Pairwise (· < ·) → b.Pairwise (· < ·) → (∀ x, x ∈ a ↔ x ∈ b) → a = b
  | [], [], _, _, _ => rfl
  | [], y :: b, _, _, h => absurd ((h y).2 (.head _)) (by simp)
  | x :: a, [], _, _, h => absurd ((h x).1 (.head _)) (by simp)
  | x :: a, y :: b, ha, hb, h => by
    obtain ⟨a1, a2⟩ := List.pairwise_cons.1 ha
    obtain ⟨b1, b2⟩ := List.pairwise_cons.1 hb
    have hxy : x = y := by
      have h1 := (h x).1 (.head _)
      have h2 := (h y).2 (.head _)
      rcases List.mem_cons.1 h1 with e | h1
      · exact e
      · rcases List.mem_cons.1 h2 with e | h2
        · exact e.symm
        · have := b1 x h1; have := a1 y h2; omega
    subst hxy
    congr 1
    refine sorted_eqP a2 b2 fun z => ⟨fun hz => ?_, fun hz => ?_⟩
    · rcases List.mem_cons.1 ((h z).1 (.tail _ hz)) with e | h3
      · subst e; have := a1 z hz; omega
      · exact h3
    · rcases List.mem_cons.1 ((h z).2 (.tail _ hz)) with e | h3
      · subst e; have := b1 z hz; omega
      · exact h3
theorem nodup_perm {a b : List Int} (ha : a.Nodup) (hb : b.Nodup) (h : ∀ x, x ∈ a ↔ x ∈ b) : a.Perm b := by
  refine List.perm_iff_count.2 fun x => ?_
  rw [ha.count, hb.count]
  by_cases hx : x ∈ a
  · rw [if_pos hx, if_pos ((h x).1 hx)]
  · rw [if_neg hx, if_neg (fun h' => hx ((h x).2 h'))]
end Go.Proofs.YtgakoainjgjimaaGreatDoor
namespace Go.Proofs.YtgakoainjgjimaaGreatDoor
theorem ix_get {L : List Int} {j : Nat} (hj : j < L.length) : ix L j = L[j] := by simp [ix, List.getD_eq_getElem?_getD, List.getElem?_eq_getElem hj]
end Go.Proofs.YtgakoainjgjimaaGreatDoor
namespace Go.Proofs.YtgakoainjgjimaaGreatDoor
open Go.RowKit
theorem map_ix (m : List Int) (j : Nat) (hj : j < m.length) : (m.map (Value.int .i64))[j]? = some (.int .i64 (ix m j)) := by
  simp [ix, List.getD_eq_getElem?_getD, List.getElem?_eq_getElem hj]
theorem ix_app (l m : List Int) (i : Nat) : ix (l ++ m) i = if i < l.length then ix l i else ix m (i - l.length) := by
  split
  · rename_i h; simp [ix, List.getElem?_append_left h]
  · rename_i h; simp [ix, List.getElem?_append_right (Nat.le_of_not_lt h)]
theorem Fits.app {l m : List Int} (h : Fits l) (k : Fits m) : Fits (l ++ m) := fun i => by
  rw [ix_app]; split
  · exact h i
  · exact k _
def lenOf : Value → Nat
  | .slice _ n _ => n
  | _ => 0
def LeftX (W : World) (v : Value) (l : List Int) (lo hi : Nat) : Prop :=
  (v = .slice none 0 0 ∧ l = []) ∨ ∃ g c D, v = .slice (some ⟨g, 0, none⟩) l.length c ∧ lo < g ∧ g < hi ∧ Blk W g D 3 ∧ (∀ k, k < l.length → D[k]? = some (.int .i64 (ix l k))) ∧ Fits l ∧ l.length ≤ c ∧ c ≤ D.length ∧ c ≤ maxLen ∧ l.length * 8 ≤ 140737488351232
theorem LeftX.same {W W' : World} {v : Value} {l : List Int} {lo hi : Nat} (h : LeftX W v l lo hi) (hs : ∀ g, lo < g → g < hi → W'.heap[g]? = W.heap[g]?) : LeftX W' v l lo hi := by
  rcases h with h | ⟨g, c, D, e, h1, h2, h3, h4⟩
  · exact .inl h
  · exact .inr ⟨g, c, D, e, h1, h2, h3.same (hs g h1 h2), h4⟩
theorem LeftX.below {W W' : World} {v : Value} {l : List Int} {lo hi : Nat} (h : LeftX W v l lo hi) (hb : Below W.heap.size W W') : LeftX W' v l lo hi := by
  rcases h with h | ⟨g, c, D, e, h1, h2, h3, h4⟩
  · exact .inl h
  · exact .inr ⟨g, c, D, e, h1, h2, h3.below hb, h4⟩
theorem LeftX.hi {W : World} {v : Value} {l : List Int} {lo hi hi' : Nat} (h : LeftX W v l lo hi) (hh : hi ≤ hi') : LeftX W v l lo hi' := by
  rcases h with h | ⟨g, c, D, e, h1, h2, h3, h4⟩
  · exact .inl h
  · exact .inr ⟨g, c, D, e, h1, by omega, h3, h4⟩
theorem LeftX.row {W : World} {v : Value} {l : List Int} {lo hi base : Nat} (h : LeftX W v l lo hi) (hb : base ≤ lo) : QRow base W v l := by
  rcases h with ⟨rfl, rfl⟩ | ⟨g, c, D, rfl, h1, h2, h3, h4, h5, h6, h7, h8, h9⟩
  · exact QRow.nil _ _
  · refine ⟨h5, .inr ⟨g, 0, c, D.toArray, rfl, by omega, h3, h6, h8, by simpa using h7, fun i hi => ?_⟩⟩
    rw [Nat.zero_add, List.getElem?_toArray]
    exact h4 i hi
theorem LeftX.ints {W : World} {v : Value} {l : List Int} {lo hi : Nat} (h : LeftX W v l lo hi) : Ints W v l := by
  have hr := h.row (base := 0) (Nat.zero_le _)
  rcases h with ⟨rfl, rfl⟩ | ⟨g, c, D, rfl, h1, h2, h3, h4, h5, h6, h7, h8, h9⟩
  · exact nil_ints _
  · exact hr.ints h9
theorem ProgIs.rulesOf {W : World} {n vn vs vr vm : Value} {p : GP} (h : ProgIs W (.agg #[n, vn, vs, vr, vm]) p) : RulesIs W vr p.rules := by
  obtain ⟨vn', vs', vr', vm', e, h1⟩ := h
  injection e with e
  have e := congrArg Array.toList e
  simp only [List.cons.injEq, and_true] at e
  obtain ⟨-, -, -, rfl, -⟩ := e
  exact h1.rules
theorem Blk.tyNe2 {w : World} {b g : Nat} {c d : List Value} {T U : TypeId} (h : Blk w b c T) (k : Blk w g d U) (hT : T ≠ U) : b ≠ g := by
  rintro rfl
  unfold Blk at h k
  rw [h] at k
  injection k with k
  injection k with _ h2 _
  exact hT h2
structure XpSt (w : World) (vset : Value) (p : GP) (N : Nat) (vn vs vr vm : Value) (bo ld bl bd ib mb lb Bw : Nat) (k kb : Nat) (wo wl : List WY) (lf : List Int) (vl : Value) (W : World) : Prop where
  pbx : Blk W w.heap.size [.int .i64 (N : Int), vn, vs, vr, vm] 27
  res : Blk W (w.heap.size + 1) [.slice none 0 0, .slice none 0 0] 30
  out : ∃ vw, Blk W bo [vw, .slice none 0 0] 30 ∧ MineY Bw vw wo W
  lvd : Blk W ld ((lvL N wl).map (Value.int .i64)) 3
  lvb : Blk W bl [.slice (some ⟨ld, 0, none⟩) (N + 1) (N + 1)] 23
  dvf : Blk W bd [.func (.func 88) #[] #[.pointer (some ⟨ib, 0, none⟩), .pointer (some ⟨lb, 0, none⟩)]] 76
  inb : Blk W ib [.func (.func 86) #[] #[.pointer (some ⟨mb, 0, none⟩)]] 82
  mbx : Blk W mb [vset] 23
  lbx : Blk W lb [.slice (some ⟨ld, 0, none⟩) (N + 1) (N + 1)] 23
  kbx : Blk W kb [.int .i64 (k : Int)] 3
  lft : LeftX W vl lf ld kb
  below : Below w.heap.size w W
  ord : w.heap.size + 1 < bo ∧ bo < ld ∧ ld < kb ∧ w.heap.size + 1 < Bw
  bw : Bw ≤ W.heap.size
section
variable {w W W' : World} {vset : Value} {p : GP} {m lf : List Int} {N : Nat} {vn vs vr vm vl : Value} {bo ld bl bd ib mb lb Bw k kb : Nat} {ws wo wl : List WY}
theorem XpSt.on (h : XpSt w vset p N vn vs vr vm bo ld bl bd ib mb lb Bw k kb wo wl lf vl W) (hb : Below W.heap.size W W') : XpSt w vset p N vn vs vr vm bo ld bl bd ib mb lb Bw k kb wo wl lf vl W' :=
  ⟨h.pbx.below hb, h.res.below hb, let ⟨v, h1, h2⟩ := h.out; ⟨v, h1.below hb, h2.below hb⟩, h.lvd.below hb, h.lvb.below hb, h.dvf.below hb, h.inb.below hb, h.mbx.below hb, h.lbx.below hb, h.kbx.below hb, h.lft.below hb, bon h.below hb, h.ord, Nat.le_trans h.bw hb.size⟩
theorem XpSt.lev (h : XpSt w vset p N vn vs vr vm bo ld bl bd ib mb lb Bw k kb wo wl lf vl W) (hl : Lim W.heap.size [ld] W W') (hd : Blk W' ld ((lvL N ws).map (Value.int .i64)) 3) : XpSt w vset p N vn vs vr vm bo ld bl bd ib mb lb Bw k kb wo ws lf vl W' := by
  have key : ∀ {b : Nat} {c : List Value} {T : TypeId}, Blk W b c T → b ≠ ld → Blk W' b c T := fun hb hne => hb.same (hl.block _ hb.lt (by simpa using hne))
  have ho := h.ord
  obtain ⟨v, h1, h2⟩ := h.out
  refine ⟨key h.pbx (h.pbx.tyNe2 h.lvd (by decide)), key h.res (h.res.tyNe2 h.lvd (by decide)), ⟨v, key h1 (h1.tyNe2 h.lvd (by decide)), h2.same fun i _ hi e => hl.block i hi (by
    have := h2.far h.lvd (by decide)
    rw [e] at this
    simpa using this)⟩, hd, key h.lvb (h.lvb.tyNe2 h.lvd (by decide)), key h.dvf (h.dvf.tyNe2 h.lvd (by decide)), key h.inb (h.inb.tyNe2 h.lvd (by decide)), key h.mbx (h.mbx.tyNe2 h.lvd (by decide)), key h.lbx (h.lbx.tyNe2 h.lvd (by decide)), key h.kbx (by omega), h.lft.same fun g h3 h4 => hl.block g (by have := h.kbx.lt; omega) (by simp; omega), h.below.trans (hl.mono (by have := h.below.size; exact this) (fun i hi _ => hi) |>.below (fun i hi => by simp only [List.mem_singleton] at hi; omega)), ho, Nat.le_trans h.bw hl.size⟩
theorem XpSt.push (h : XpSt w vset p N vn vs vr vm bo ld bl bd ib mb lb Bw k kb wo wl lf vl W) {v v' : Value} (h1 : Blk W bo [v, .slice none 0 0] 30) (h2 : MineY Bw v wo W) (hg : W.grownBy W' v.ownBlock) (h3 : MineY Bw v' ws W') :
    XpSt w vset p N vn vs vr vm bo ld bl bd ib mb lb Bw k kb ws wl lf vl (W'.setCell ⟨bo, 0, none⟩ v') := by
  have ho := h.ord
  have hb1 : ∀ {b : Nat} {c : List Value} {T : TypeId}, Blk W b c T → T ≠ 49 → Blk W' b c T := fun hb hT => hb.same (hg.block _ hb.lt fun e => h2.far hb hT e.symm)
  have key : ∀ {b : Nat} {c : List Value} {T : TypeId}, Blk W b c T → T ≠ 49 → b ≠ bo → Blk (W'.setCell ⟨bo, 0, none⟩ v') b c T := fun hb hT hne => (hb1 hb hT).setOther 0 v' hne
  have hset : ∀ i, i ≠ bo → (W'.setCell ⟨bo, 0, none⟩ v').heap[i]? = W'.heap[i]? := fun i hi => Below.heap_setCell _ _ _ _ hi
  have hbo := (hb1 h1 (by decide)).set 0 v'
  simp only [List.set_cons_zero] at hbo
  refine ⟨key h.pbx (by decide) (by omega), key h.res (by decide) (by omega), ⟨v', hbo, h3.same fun i hi _ _ => hset i fun e => by
    have := h3.far (hb1 h1 (by decide)) (by decide)
    subst e
    contradiction⟩, key h.lvd (by decide) (by omega), key h.lvb (by decide) (h.lvb.tyNe2 h1 (by decide)), key h.dvf (by decide) (h.dvf.tyNe2 h1 (by decide)), key h.inb (by decide) (h.inb.tyNe2 h1 (by decide)), key h.mbx (by decide) (h.mbx.tyNe2 h1 (by decide)), key h.lbx (by decide) (h.lbx.tyNe2 h1 (by decide)), key h.kbx (by decide) (by omega), ?_, ?_, ho, by simp only [World.setCell, Array.size_modify]; exact Nat.le_trans h.bw hg.size⟩
  · rcases h.lft with hn | ⟨g, c, D, e, e1, e2, e3, e4⟩
    · exact .inl hn
    · exact .inr ⟨g, c, D, e, e1, e2, key e3 (by decide) (by omega), e4⟩
  · refine Below.setCell (p := ⟨bo, 0, none⟩) (h.below.trans ⟨hg.os, hg.tape, hg.output, hg.size, fun i hi => hg.block i (by have := h.below.size; omega) fun e => ?_⟩) (by show w.heap.size ≤ bo; omega) v'
    have := (h2.lt e.symm).1
    omega
theorem XpSt.strike (h : XpSt w vset p N vn vs vr vm bo ld bl bd ib mb lb Bw k kb wo wl lf vl W) {g c : Nat} {D D' : List Value} {lf' : List Int} (_hv : vl = .slice (some ⟨g, 0, none⟩) lf.length c) (hlo : ld < g) (hhi : g < kb) (hD : Blk W g D 3) (hl : Lim W.heap.size [g] W W') (hD' : Blk W' g D' 3) (hlen : D'.length = D.length)
    (hc : ∀ k, k < lf'.length → D'[k]? = some (.int .i64 (ix lf' k))) (hf : Fits lf') (hn : lf'.length ≤ c ∧ c ≤ D.length ∧ c ≤ maxLen) (h8 : lf'.length * 8 ≤ 140737488351232) :
    XpSt w vset p N vn vs vr vm bo ld bl bd ib mb lb Bw k kb wo wl lf' (.slice (some ⟨g, 0, none⟩) lf'.length c) W' := by
  have ho := h.ord
  have key : ∀ {b : Nat} {c : List Value} {T : TypeId}, Blk W b c T → b ≠ g → Blk W' b c T := fun hb hne => hb.same (hl.block _ hb.lt (by simpa using hne))
  obtain ⟨v, h1, h2⟩ := h.out
  exact ⟨key h.pbx (h.pbx.tyNe2 hD (by decide)), key h.res (h.res.tyNe2 hD (by decide)), ⟨v, key h1 (h1.tyNe2 hD (by decide)), h2.same fun i _ hi e => hl.block i hi (by
    have := h2.far hD (by decide)
    rw [e] at this
    simpa using this)⟩, key h.lvd (by omega), key h.lvb (h.lvb.tyNe2 hD (by decide)), key h.dvf (h.dvf.tyNe2 hD (by decide)), key h.inb (h.inb.tyNe2 hD (by decide)), key h.mbx (h.mbx.tyNe2 hD (by decide)), key h.lbx (h.lbx.tyNe2 hD (by decide)), key h.kbx (by omega),
    .inr ⟨g, c, D', rfl, hlo, hhi, hD', hc, hf, hn.1, by omega, hn.2.2, h8⟩, h.below.trans (hl.mono (by have := h.below.size; exact this) (fun i hi _ => hi) |>.below (fun i hi => by simp only [List.mem_singleton] at hi; omega)), ho, Nat.le_trans h.bw hl.size⟩
theorem XpSt.next (h : XpSt w vset p N vn vs vr vm bo ld bl bd ib mb lb Bw k kb wo wl lf vl W) : XpSt w vset p N vn vs vr vm bo ld bl bd ib mb lb Bw (k + 1) W.heap.size wo wl lf vl (W.alloc (.cells #[.int .i64 ((k : Int) + 1)] 3)) := by
  have h2 := h.on (bal (Below.refl W.heap.size W) (.cells #[.int .i64 ((k : Int) + 1)] 3))
  have hkb := h.kbx.lt
  have ho := h.ord
  exact ⟨h2.pbx, h2.res, h2.out, h2.lvd, h2.lvb, h2.dvf, h2.inb, h2.mbx, h2.lbx, Blk.new W [.int .i64 ((k : Int) + 1)] 3, h2.lft.hi (by omega), h2.below, by omega, h2.bw⟩
theorem fits_lv {N : Nat} {ws : List WY} (h : ∀ y ∈ ws, InI y.level) : Fits (lvL N ws) := fitI fun x hx => by
  obtain ⟨j, -, rfl⟩ := List.mem_map.1 hx
  by_cases h0 : lvF ws j = 0
  · rw [h0]; unfold InI; omega
  · obtain ⟨y, hy, -, e⟩ := lvF_mem h0
    rw [← e]; exact h y hy
theorem lv_ints {W : World} {ld N : Nat} {ws : List WY} (h : Blk W ld ((lvL N ws).map (Value.int .i64)) 3) (hy : ∀ y ∈ ws, InI y.level) (hN : N ≤ 4000) : Ints W (.slice (some ⟨ld, 0, none⟩) (N + 1) (N + 1)) (lvL N ws) := by
  refine ⟨⟨_, _, by rw [lvL_len], by rw [lvL_len]; exact Nat.le_refl _, by unfold maxLen; omega, by rw [lvL_len]; omega, fun _ => ⟨ld, 0, rfl, h.lt, fun i hi => ?_⟩⟩, fits_lv hy⟩
  rw [Nat.zero_add, h.cell]
  exact map_ix _ i hi
theorem XpSt.dv (h : XpSt w vset p N vn vs vr vm bo ld bl bd ib mb lb Bw k kb wo wl lf vl W) (hm : Ints w vset m) (hs : m.Pairwise (· < ·)) (hy : ∀ y ∈ wl, InI y.level) (hN : N ≤ 4000) : DvF W bd ib mb lb m (lvL N wl) :=
  ⟨h.dvf, ⟨h.inb, ⟨_, h.mbx, hm.below h.below⟩, hs⟩, _, h.lbx, lv_ints h.lvd hy hN⟩
end
theorem belowY {B : Nat} {v : Value} {L : List WY} {W w w' : World} (h : Below B W w) (hm : MineY B v L w) (hg : w.grownBy w' v.ownBlock) (hB : B ≤ w.heap.size) : Below B W w' :=
  h.trans ⟨hg.os, hg.tape, hg.output, hg.size, fun i hi => hg.block i (by omega) fun e => by have := (hm.lt e.symm).1; omega⟩
theorem leftX_nil (m : List Int) : leftX m [] = m := by simp [leftX, atomsY]
theorem firR_ix {p : GP} {m T : List Int} {a r : Int} (h : IxP p.rules.length (fun i => derT T m (ixR p.rules i) a) r) : (r = -1 ∧ firR p m T a = none) ∨ ∃ i : Nat, r = i ∧ i < p.rules.length ∧ firR p m T a = some i := by
  rcases h with ⟨rfl, h⟩ | ⟨i, hi, rfl, h1, h2⟩
  · refine .inl ⟨rfl, ?_⟩
    unfold firR
    refine List.find?_eq_none.2 fun x hx => ?_
    have := h x (List.mem_range.1 hx)
    simpa using this
  · refine .inr ⟨i, rfl, hi, ?_⟩
    unfold firR
    refine List.find?_eq_some_iff_getElem.2 ⟨h1, i, by simpa using hi, by simp, fun j hj => ?_⟩
    simp [h2 j hj]
theorem nowX_take {p : GP} {m T : List Int} {k : Int} {l : List Int} {j : Nat} (hj : j < l.length) : nowX p m T k (l.take (j + 1)) = nowX p m T k (l.take j) ++ (match firR p m T (ix l j) with | none => [] | some i => [⟨ix l j, i, k⟩]) := by
  unfold nowX
  rw [List.take_succ_eq_append_getElem hj, List.filterMap_append, ← ix_get hj]
  congr 1
  cases h : firR p m T (ix l j) with
  | none => simp [h]
  | some i => simp [h]
def Ex2Rel (p : GP) (m T : List Int) (k : Nat) (l : List Int) (W1 : World) (vnow i : Value) (wx : World) : Prop :=
  ∃ j : Nat, j ≤ l.length ∧ i = .int .i64 j ∧ MineY W1.heap.size vnow (nowX p m T k (l.take j)) wx ∧ Below W1.heap.size W1 wx
def Ex3Rel (N : Nat) (ws now : List WY) (ld : Nat) (W2 : World) (i : Value) (wx : World) : Prop :=
  ∃ j : Nat, j ≤ now.length ∧ i = .int .i64 j ∧ Blk wx ld ((lvL N (ws ++ now.take j)).map (Value.int .i64)) 3 ∧ Lim W2.heap.size [ld] W2 wx
def Ex1Rel (w : World) (vset : Value) (p : GP) (m : List Int) (N : Nat) (vn vs vr vm : Value) (bo ld bl bd ib mb lb Bw : Nat) (vl vk : Value) (wx : World) : Prop :=
  ∃ (k : Nat) (ws : List WY) (kb : Nat), vk = .pointer (some ⟨kb, 0, none⟩) ∧ RndX p m k ws ∧ k ≤ ws.length + 1 ∧ (∀ y ∈ ws, YI y) ∧ XpSt w vset p N vn vs vr vm bo ld bl bd ib mb lb Bw k kb ws ws (leftX m ws) vl wx
def ExplQ (B : Nat) (w : World) (v : Value) (x : XP) : Prop := ∃ vw vr, v = .agg #[vw, vr] ∧ MineY B vw x.whys w ∧ QRow B w vr x.rest
theorem idxR_dv {p : GP} {m : List Int} {k : Nat} {ws : List WY} {N : Nat} (hR : RndX p m k ws) (hv : validE p = 0) (hm : ∀ x ∈ m, 1 ≤ x ∧ x ≤ (N : Int)) (hk : k ≤ 100000) (_hN : N ≤ 4000) (_hy : ∀ y ∈ ws, InI y.level) {bd ib mb lb ab kb : Nat} {W : World} {vr : Value} {a : Int}
    (hd : DvF W bd ib mb lb m (lvL N ws)) (ha : Blk W ab [.int .i64 a] 3) (hkb : Blk W kb [.int .i64 (k : Int)] 3) (hr : RulesIs W vr p.rules) :
    Calls Tryz.prog 40 #[vr, .func (.func 41) #[] #[.pointer (some ⟨bd, 0, none⟩), .pointer (some ⟨ab, 0, none⟩), .pointer (some ⟨kb, 0, none⟩)]] W fun e w' => ∃ r, e = .returned (.int .i64 r) ∧ ((r = -1 ∧ firR p m (doneX m ws) a = none) ∨ ∃ i : Nat, r = i ∧ i < p.rules.length ∧ firR p m (doneX m ws) a = some i) ∧ Below W.heap.size W w' := by
  refine (idxR_xp1 vr p.rules W hr (fun i => derT (doneX m ws) m (ixR p.rules i) a) _ _ _ (fun w' hb j hj u hu => ?_)).mono fun e w' ⟨r, h1, h2, h3⟩ => ⟨r, h1, firR_ix h2, h3⟩
  have := xp1_any u (ixR p.rules j) a k m (lvL N ws) bd ib mb lb ab kb w' hu (hd.below hb) (ha.below hb) (hkb.below hb) ⟨hR.pos, hk⟩ (dvOk_valid hv hj) (fun x hx => by have := hm x hx; rw [lvL_len]; omega)
  rw [hR.lvT hm] at this
  exact this
theorem ex2_del {m : List Int} {ws : List WY} {N : Nat} (hm : ∀ x ∈ m, 1 ≤ x ∧ x ≤ (N : Int)) (hN : N ≤ 4000) (hl : ∀ y ∈ ws, 1 ≤ y.level ∧ InI y.level) {l : List Int} (hs : ∀ x ∈ l, x ∈ m) {g c bl ld : Nat} {D : List Value} {W : World} (hb : Blk W g D 3) (hc : ∀ k, k < l.length → D[k]? = some (.int .i64 (ix l k))) (hf : Fits l) (hn : l.length ≤ c ∧ c ≤ D.length ∧ c ≤ maxLen) (h8 : l.length * 8 ≤ 140737488351232)
    (hbl : Blk W bl [.slice (some ⟨ld, 0, none⟩) (N + 1) (N + 1)] 23) (hld : Blk W ld ((lvL N ws).map (Value.int .i64)) 3) (hgl : ld ≠ g) (hgb : bl ≠ g) :
    Calls Tryz.prog 42 #[.slice (some ⟨g, 0, none⟩) l.length c, .func (.func 43) #[] #[.pointer (some ⟨bl, 0, none⟩)]] W fun e w' => e = .returned (.slice (some ⟨g, 0, none⟩) (l.filter fun a => decide (a ∉ atomsY ws)).length c) ∧ (∃ D', Blk w' g D' 3 ∧ D'.length = D.length ∧ (∀ k, k < (l.filter fun a => decide (a ∉ atomsY ws)).length → D'[k]? = some (.int .i64 (ix (l.filter fun a => decide (a ∉ atomsY ws)) k))) ∧ Fits (l.filter fun a => decide (a ∉ atomsY ws))) ∧ Lim W.heap.size [g] W w' := by
  have hq : ∀ x, decide (0 < lvF ws x) = decide (x ∈ atomsY ws) := fun x => by
    by_cases hin : x ∈ atomsY ws
    · obtain ⟨y, h1, h2, h3⟩ := lvF_in hin
      have := (hl y h1).1
      rw [← h3, decide_eq_true hin, decide_eq_true (by omega)]
    · rw [lvF_out hin, decide_eq_false hin]; rfl
  have hk : keepF (fun x => decide (x ∈ atomsY ws)) l l.length = l.filter fun a => decide (a ∉ atomsY ws) := by
    unfold keepF
    rw [List.take_length]
    refine List.filter_congr fun x _ => ?_
    rw [decide_not]
  rw [← hk]
  refine delf_xp2 l g c D W hb hc hf hn h8 (fun x => decide (x ∈ atomsY ws)) _ (fun w' hL j hj => ?_)
  have hx := hm _ (hs _ (ix_mem hj))
  have hb1 : Blk w' bl [.slice (some ⟨ld, 0, none⟩) (N + 1) (N + 1)] 23 := hbl.same (hL.block _ hbl.lt (by simpa using hgb))
  have hb2 : Blk w' ld ((lvL N ws).map (Value.int .i64)) 3 := hld.same (hL.block _ hld.lt (by simpa using hgl))
  have := xp2_any (ix l j) (lvL N ws) bl w' ⟨_, hb1, lv_ints hb2 (fun y hy => (hl y hy).2) hN⟩ ⟨by omega, by rw [lvL_len]; omega⟩
  rw [lvL_ix (by omega), show (((ix l j).toNat : Nat) : Int) = ix l j by omega, hq] at this
  exact this
end Go.Proofs.YtgakoainjgjimaaGreatDoor
namespace Go.Proofs.YtgakoainjgjimaaGreatDoor
def setL (L : List Int) : List Int := L.foldr insK []
def ones (n : Nat) : List Int := List.replicate n 1
def clauseP (L : List Int) : PBC × Int := normP (setL L) (ones (setL L).length) 1
end Go.Proofs.YtgakoainjgjimaaGreatDoor
namespace Go.Proofs.YtgakoainjgjimaaGreatDoor
open Go.RowKit Go.Lib
theorem sortI_pairwise (l : List Int) : (l.mergeSort fun x y => decide (x ≤ y)).Pairwise (· ≤ ·) := by
  have := List.pairwise_mergeSort (le := fun x y : Int => decide (x ≤ y)) (fun a b c h1 h2 => by simp only [decide_eq_true_eq] at *; omega) (fun a b => by simp only [Bool.or_eq_true, decide_eq_true_eq]; omega) l
  exact this.imp fun h => by simpa using h
theorem sortI_mem (l : List Int) (x : Int) : x ∈ (l.mergeSort fun x y => decide (x ≤ y)) ↔ x ∈ l := (List.mergeSort_perm l _).mem_iff
theorem sortI_len (l : List Int) : (l.mergeSort fun x y => decide (x ≤ y)).length = l.length := List.length_mergeSort _
end Go.Proofs.YtgakoainjgjimaaGreatDoor
namespace Go.Proofs.YtgakoainjgjimaaGreatDoor
open Go.RowKit Go.Sort
theorem ix_map (l : List Int) : (List.range l.length).map (fun i => Value.int .i64 (ix l i)) = l.map (Value.int .i64) := by
  apply List.ext_getElem (by simp)
  intro i h1 h2
  simp only [List.length_map, List.length_range] at h1
  simp [ix, List.getD_eq_getElem?_getD, List.getElem?_eq_getElem h1]
theorem fits_mem {l s : List Int} (h : Fits l) (hm : ∀ x ∈ s, x ∈ l) : Fits s := fitI fun x hx => by
  obtain ⟨j, hj, e⟩ := List.mem_iff_getElem.1 (hm x hx)
  have := h j
  rw [ix_get hj, e] at this
  exact this
abbrev srt (l : List Int) : List Int := l.mergeSort fun x y => decide (x ≤ y)
end Go.Proofs.YtgakoainjgjimaaGreatDoor
namespace Go.Proofs.YtgakoainjgjimaaGreatDoor
open Go.RowKit
def SubRel (n : Int) (w0 : World) (v i : Value) (wx : World) : Prop :=
  ∃ k : Nat, (k : Int) ≤ n ∧ i = .int .i64 ((k : Int) + 1) ∧ ∃ l, QRow w0.heap.size wx v l ∧ l.length ≤ k ∧ (∀ x ∈ l, 1 ≤ x ∧ x ≤ k) ∧ Hid (l.Pairwise (· < ·)) ∧ Below w0.heap.size w0 wx
theorem SubRel.push {k : Nat} {l : List Int} {v : Value} {w0 w1 w4 : World} (hq : QRow w0.heap.size w1 v l) (hb : Below w0.heap.size w0 w1)
    (hg : (w1.alloc (.cells #[.int .i64 ((k : Int) + 1)] 3)).grownBy w4 v.ownBlock) : Below w0.heap.size w0 w4 := by
  have hf : ∀ i, v.ownBlock = some i → w0.heap.size ≤ i := fun i e => by
    rcases hq.2 with ⟨rfl, _⟩ | ⟨g, off, cap, cur, rfl, hbg, _⟩
    · cases e
    · simp only [Value.ownBlock, Option.some.injEq] at e; omega
  have hsz := hg.size
  simp at hsz
  have hbs := hb.size
  have hk : ∀ i, i < w0.heap.size → w4.heap[i]? = w1.heap[i]? := fun i hi => (hg.block i (by simp; omega) (fun e => by have := hf i e.symm; omega)).trans (Below.heap_alloc _ _ _ (by omega))
  exact hb.trans ⟨hg.os, hg.tape, hg.output, by omega, fun i hi => hk i hi⟩
theorem SubRel.mem {k : Nat} {l : List Int} (h : ∀ x ∈ l, 1 ≤ x ∧ x ≤ k) : ∀ x ∈ l ++ [(k : Int) + 1], 1 ≤ x ∧ x ≤ ((k + 1 : Nat) : Int) := fun x hx => by
  rcases List.mem_append.1 hx with h1 | h1
  · have := h x h1; omega
  · rw [List.mem_singleton] at h1; omega
set_option maxHeartbeats 1000000 in
theorem sEqual_any (v1 v2 : Value) (l1 l2 : List Int) (w : World) (h1 : Ints w v1 l1) (h2 : Ints w v2 l2) :
    Calls Tryz.prog 91 #[v1, v2] w fun e w' => e = .returned (.bool (decide (l1 = l2))) ∧ Below w.heap.size w w' := by
  have i1 := h1
  have i2 := h2
  obtain ⟨a1, c1, rfl, -, hl1, -, hc1⟩ := h1.form
  obtain ⟨a2, c2, rfl, -, hl2, -, hc2⟩ := h2.form
  clear h1 h2
  by_cases hlen : l1.length = l2.length
  · have hb0 : ((l1.length : Int) != (l2.length : Int)) = false := by simp [hlen]
    have HL := Lib.hid hlen
    have F1 := Lib.hid i1.2
    have F2 := Lib.hid i2.2
    clear hlen i1 i2
    go_enter Tryz.func91, Tryz.ntmps91
    go_wp2
    go_loopw [13] (fun i wx => IntsRel l1 l2 w i wx) (fun i _ => l1.length - (intOf i).toNat)
    case atStart => exact ⟨0, by omega, rfl, fun j hj => absurd hj (Nat.not_lt_zero _), Below.refl _ _⟩
    case round =>
      obtain ⟨k, hk, rfl, hall, hb⟩ := hrel
      have HA := Lib.hid hall
      clear hall
      by_cases hlt : k < l1.length
      · obtain ⟨b1, off1, rfl, hbl1, hcc1⟩ := hc1 (by omega)
        obtain ⟨b2, off2, rfl, hbl2, hcc2⟩ := hc2 (by have := HL.out; omega)
        have hlt2 : k < l2.length := by have := HL.out; omega
        have hlr1 : b1 < wr.heap.size := Nat.lt_of_lt_of_le hbl1 hb.size
        have hlr2 : b2 < wr.heap.size := Nat.lt_of_lt_of_le hbl2 hb.size
        have k1 : ∀ e : Ext wr, e.world.cell? ⟨b1, off1 + k, none⟩ = some (.int .i64 (ix l1 k)) := fun e => (bcell e.below _ _ hlr1).trans ((bcell hb _ _ hbl1).trans (hcc1 k hlt))
        have k2 : ∀ e : Ext wr, e.world.cell? ⟨b2, off2 + k, none⟩ = some (.int .i64 (ix l2 k)) := fun e => (bcell e.below _ _ hlr2).trans ((bcell hb _ _ hbl2).trans (hcc2 k hlt2))
        have f1 := F1.out k
        have f2 := F2.out k
        clear hcc1 hcc2 hc1 hc2
        by_cases he : ix l1 k = ix l2 k
        · have HN := Lib.hid (lt_succ_all HA.out he)
          have he' : (ix l1 k != ix l2 k) = false := by simp [he]
          clear he
          go_wp2
          refine wp_region_ext (by kernel_rfl) (by kernel_rfl) ?_
          repeat (go_big_quiet_step (fail))
          refine wpQuiet_nil ?_
          intro _ hw'
          obtain ⟨⟨w9, hb9⟩, rfl⟩ := hw'
          try dsimp only
          go_wp2
          first
            | (go_roundw
               case rel => (exact ⟨k + 1, by omega, by go_num, HN.out, bon hb hb9⟩)
               case measure => (simp [intOf]; omega))
            | (refine ⟨?_, ?_⟩
               · (exact ⟨k + 1, by omega, by go_num, HN.out, bon hb hb9⟩)
               · (simp [intOf]; omega))
        · have HF : Hid (decide (l1 = l2) = false) := Lib.hid (decide_eq_false (fun e => he (by rw [e])))
          have he' : (ix l1 k != ix l2 k) = true := by simp [he]
          clear he
          go_wp2
          refine wp_region_ext (by kernel_rfl) (by kernel_rfl) ?_
          repeat (go_big_quiet_step (fail))
          refine wpQuiet_nil ?_
          intro _ hw'
          obtain ⟨⟨w9, hb9⟩, rfl⟩ := hw'
          try dsimp only
          go_wp2
          go_ret
          exact ⟨ret_bool HF.out.symm, bon hb hb9⟩
      · have HF : Hid (decide (l1 = l2) = true) := Lib.hid (decide_eq_true (eq_of_ix HL.out (fun j hj => HA.out j (by omega))))
        go_wp2
        go_ret
        exact ⟨ret_bool HF.out.symm, hb⟩
  · have HF : Hid (decide (l1 = l2) = false) := Lib.hid (decide_eq_false (fun e => hlen (by rw [e])))
    have hb0 : ((l1.length : Int) != (l2.length : Int)) = true := by simp; omega
    clear hlen i1 i2
    go_enter Tryz.func91, Tryz.ntmps91
    go_wp2
    go_ret
    exact ⟨ret_bool HF.out.symm, Below.refl _ _⟩
end Go.Proofs.YtgakoainjgjimaaGreatDoor
