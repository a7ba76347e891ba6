/- My texts Tx4, Lay, PbS, Aw0, Tx5, Tx6, merged. -/
import Derived.Test.YtgakoainjgjimaaGreatDoorM14
import Derived.Test.YtgakoainjgjimaaGreatDoorM13
import Derived.Test.YtgakoainjgjimaaGreatDoorM08
import Derived.Test.YtgakoainjgjimaaGreatDoorM07
import Derived.Test.YtgakoainjgjimaaGreatDoorM05
import Derived.Test.YtgakoainjgjimaaGreatDoorM04
import Derived.Test.YtgakoainjgjimaaGreatDoorM03
import Derived.Test.YtgakoainjgjimaaGreatDoorM00
import Derived.Test.YtgakoainjgjimaaGreatDoorProg
import Derived.WalkKit
import Derived.Lib.Hide
import Derived.Deep.QuietTactic
import Derived.BigQuiet
import Derived.WalkSpells
import Derived.Lib.SliceRun
import Derived.MapKept
import Derived.Maps.OwnSet
import Derived.Maps.OwnOps
import Derived.Test.YtgakoainjgjimaaGreatDoorM02
import Derived.Test.YtgakoainjgjimaaGreatDoorM01
import Derived.Deep.AppendLies
import Derived.Lib.Bytealg
import Derived.Deep.DeepCutAuto
import Derived.Laws.EntriesVeiled
import Derived.Deep.RegionWith
import Derived.Deep.OwnRows
import Derived.Test.YtgakoainjgjimaaGreatDoorM06
import Derived.RangeFuncNested
import Derived.RangeFuncBound
import Derived.RangeFuncCalls
import Derived.RangeFuncLeaves
import Derived.OwnWalkIn
import Derived.TacticsInMore
import Derived.LoopNIn
import Derived.LoopIn
import Derived.Stop.RegionWithIn
import Derived.Shelf.Abstract
import Derived.Deep.LoopGhost
import Derived.Deep.DrawnRows
import Derived.Shelf.Sort.Plain
import Derived.Shelf.Slices.CompactI
import Derived.Shelf.Slices.In.SortNone
import Derived.Shelf.Strconv.Itoa3
import Derived.Shelf.Strings.BuilderK
import Derived.Shelf.Slices.SearchI
import Derived.Shelf.Slices.Empties
import Derived.Test.YtgakoainjgjimaaGreatDoorM09
import Derived.Deep.AppendSrc
import Derived.Test.YtgakoainjgjimaaGreatDoorM11
import Derived.Test.YtgakoainjgjimaaGreatDoorM10
import Derived.Lib.SlicesCompact
import Derived.Sort.OwnSortedInts
import Derived.Sort.QuietThIn
import Derived.Test.YtgakoainjgjimaaGreatDoorM12
import Derived.Test.YtgakoainjgjimaaGreatDoorM15
import Derived.Lib.ItoaNum
import Derived.Maps.RangeWalk
import Derived.RangeFuncBox
import Derived.Maps.OwnIn
import Derived.Lib.RowBridge

namespace Go.Proofs.YtgakoainjgjimaaGreatDoor
open Go.RowKit
theorem ix_ext17 {a b : List Int} (hl : a.length = b.length) (h : ∀ i, i < a.length → ix a i = ix b i) : a = b := by
  refine List.ext_getElem hl fun i h1 h2 => ?_
  have := h i h1
  simpa [ix, List.getD, h1, h2] using this
theorem ixY_ext {a b : List WY} (hl : a.length = b.length) (h : ∀ i, i < a.length → ixY a i = ixY b i) : a = b := by
  refine List.ext_getElem hl fun i h1 h2 => ?_
  have := h i h1
  simpa [ixY, List.getD, h1, h2] using this
theorem ixK_ext {a b : List BK} (hl : a.length = b.length) (h : ∀ i, i < a.length → ixK a i = ixK b i) : a = b := by
  refine List.ext_getElem hl fun i h1 h2 => ?_
  have := h i h1
  simpa [ixK, List.getD, h1, h2] using this
def I17Rel (a b : List Int) (w : World) (i : Value) (wx : World) : Prop := ∃ k, k ≤ a.length ∧ i = .int .i64 k ∧ (∀ j, j < k → ix a j = ix b j) ∧ Below w.heap.size w wx
def B41Rel (a b : List BK) (w : World) (i : Value) (wx : World) : Prop := ∃ k, k ≤ a.length ∧ i = .int .i64 k ∧ (∀ j, j < k → ixK a j = ixK b j) ∧ Below w.heap.size w wx
theorem all_succ {α : Type} {f g : Nat → α} {k : Nat} (h : ∀ j, j < k → f j = g j) (hk : f k = g k) : ∀ j, j < k + 1 → f j = g j := fun j hj => by
  rcases Nat.lt_succ_iff_lt_or_eq.1 hj with h1 | rfl
  · exact h j h1
  · exact hk
set_option maxHeartbeats 2000000 in
set_option maxRecDepth 100000 in
theorem ints17_any (va vb : Value) (a b : List Int) (w : World) (ha : Ints w va a) (hb : Ints w vb b) :
    Calls Tryz.prog 18 #[va, vb] w fun e w' => e = .returned (.bool (decide (a = b))) ∧ Below w.heap.size w w' := by
  obtain ⟨a1, c1, rfl, -, hl1, -, hc1⟩ := ha.form
  obtain ⟨a2, c2, rfl, -, hl2, -, hc2⟩ := hb.form
  have F1 := Lib.hid ha.2
  have F2 := Lib.hid hb.2
  have HC1 := Lib.hid hc1
  have HC2 := Lib.hid hc2
  clear ha hb hc1 hc2
  go_enter Tryz.func18, Tryz.ntmps18
  by_cases e2 : a.length = b.length
  · have g2 : ((a.length : Int) != (b.length : Int)) = false := by simp [e2]
    have HE2 := Lib.hid e2
    clear e2
    go_wp2
    go_loopw [13] (fun i wx => I17Rel a b w i wx) (fun i _ => a.length - (intOf i).toNat)
    case atStart => exact ⟨0, Nat.zero_le _, rfl, fun j hj => absurd hj (Nat.not_lt_zero _), Below.refl _ _⟩
    case round =>
      obtain ⟨k, hk, rfl, hall, hbl⟩ := hrel
      have HALL := Lib.hid hall
      have HB := Lib.hid hbl
      clear hall hbl
      by_cases hlt : k < a.length
      · have hlt2 : k < b.length := by have := HE2.out; omega
        obtain ⟨b1, o1, rfl, hb1, hc⟩ := HC1.out (by omega)
        obtain ⟨b2, o2, rfl, hb2, hc'⟩ := HC2.out (by omega)
        have q1 := (bcell HB.out _ _ hb1).trans (hc k hlt)
        have q2 := (bcell HB.out _ _ hb2).trans (hc' k hlt2)
        have hz := HB.out.size
        have ke1 : ∀ e : Ext wr, e.world.cell? ⟨b1, o1 + k, none⟩ = some (.int .i64 (ix a k)) := fun e => (bcell e.below _ _ (by omega)).trans q1
        have ke2 : ∀ e : Ext wr, e.world.cell? ⟨b2, o2 + k, none⟩ = some (.int .i64 (ix b k)) := fun e => (bcell e.below _ _ (by omega)).trans q2
        have f1 := F1.out k
        have f2 := F2.out k
        clear hc hc' q1 q2
        by_cases he : ix a k = ix b k
        · have HN := Lib.hid (all_succ HALL.out he)
          have he' : (ix a k != ix b k) = false := by simp [he]
          clear he
          go_wp2
          refine wp_region_ext (by kernel_rfl) (by kernel_rfl) ?_
          repeat (go_big_quiet_step (fail))
          refine wpQuiet_nil ?_
          intro w9 hw'
          obtain ⟨e9, he9⟩ := hw'
          have hb9 := e9.below
          rw [← he9] at hb9
          clear he9 e9
          try dsimp only
          go_wp2
          first
            | (go_roundw
               case rel => (exact ⟨k + 1, hlt, by go_num, HN.out, bon HB.out hb9⟩)
               case measure => (simp [intOf]; omega))
            | (refine ⟨?_, ?_⟩
               · (exact ⟨k + 1, hlt, by go_num, HN.out, bon HB.out hb9⟩)
               · (simp [intOf]; omega))
        · have HF : Hid (decide (a = b) = false) := Lib.hid (decide_eq_false fun e => he (by rw [e]))
          have he' : (ix a k != ix b k) = true := by simp [he]
          clear he
          go_wp2
          refine wp_region_ext (by kernel_rfl) (by kernel_rfl) ?_
          repeat (go_big_quiet_step (fail))
          refine wpQuiet_nil ?_
          intro w9 hw'
          obtain ⟨e9, he9⟩ := hw'
          have hb9 := e9.below
          rw [← he9] at hb9
          clear he9 e9
          try dsimp only
          go_wp2
          go_ret
          exact ⟨ret_bool HF.out.symm, bon HB.out hb9⟩
      · obtain rfl : k = a.length := by omega
        have HF : Hid (decide (a = b) = true) := Lib.hid (decide_eq_true (ix_ext17 HE2.out fun j hj => HALL.out j hj))
        go_wp2
        go_ret
        exact ⟨ret_bool HF.out.symm, HB.out⟩
  · have g2 : ((a.length : Int) != (b.length : Int)) = true := by simp; omega
    have HF : Hid (decide (a = b) = false) := Lib.hid (decide_eq_false fun e => e2 (by rw [e]))
    clear e2
    go_wp2
    go_ret
    exact ⟨ret_bool HF.out.symm, Below.refl _ _⟩
set_option maxHeartbeats 2000000 in
set_option maxRecDepth 100000 in
theorem blocks41_any (va vb : Value) (a b : List BK) (w : World) (ha : BlksIs w va a) (hb : BlksIs w vb b) :
    Calls Tryz.prog 20 #[va, vb] w fun e w' => e = .returned (.bool (decide (a = b))) ∧ Below w.heap.size w w' := by
  obtain ⟨a1, c1, rfl, -, hl1, -, hc1⟩ := ha.form
  obtain ⟨a2, c2, rfl, -, hl2, -, hc2⟩ := hb.form
  have F1 := Lib.hid ha.2
  have F2 := Lib.hid hb.2
  have HC1 := Lib.hid hc1
  have HC2 := Lib.hid hc2
  clear ha hb hc1 hc2
  go_enter Tryz.func20, Tryz.ntmps20
  by_cases e2 : a.length = b.length
  · have g2 : ((a.length : Int) != (b.length : Int)) = false := by simp [e2]
    have HE2 := Lib.hid e2
    clear e2
    go_wp2
    go_loopw [13] (fun i wx => B41Rel a b w i wx) (fun i _ => a.length - (intOf i).toNat)
    case atStart => exact ⟨0, Nat.zero_le _, rfl, fun j hj => absurd hj (Nat.not_lt_zero _), Below.refl _ _⟩
    case round =>
      obtain ⟨k, hk, rfl, hall, hbl⟩ := hrel
      have HALL := Lib.hid hall
      have HB := Lib.hid hbl
      clear hall hbl
      by_cases hlt : k < a.length
      · have hlt2 : k < b.length := by have := HE2.out; omega
        obtain ⟨b1, o1, rfl, hb1, hc⟩ := HC1.out (by omega)
        obtain ⟨b2, o2, rfl, hb2, hc'⟩ := HC2.out (by omega)
        have q1 := hc k hlt
        have q2 := hc' k hlt2
        have hz := HB.out.size
        have ke1 : ∀ e : Ext wr, BlkCells e.world b1 (o1 + k * 3) (ixK a k) := fun e => ((hc k hlt).below HB.out hb1).below e.below (by omega)
        have ke2 : ∀ e : Ext wr, BlkCells e.world b2 (o2 + k * 3) (ixK b k) := fun e => ((hc' k hlt2).below HB.out hb2).below e.below (by omega)
        have f1 := F1.out _ (ixK_mem0 hlt)
        have f2 := F2.out _ (ixK_mem0 hlt2)
        unfold BI InI at f1 f2
        have HEX : Hid (ixK a k = ixK b k → ∀ j, j < k + 1 → ixK a j = ixK b j) := Lib.hid fun h => all_succ HALL.out h
        have HNE : Hid (ixK a k ≠ ixK b k → decide (a = b) = false) := Lib.hid fun h => decide_eq_false fun e => h (by rw [e])
        generalize ixK a k = y at *
        generalize ixK b k = z at *
        obtain ⟨y1, y2, y3⟩ := y
        obtain ⟨z1, z2, z3⟩ := z
        unfold BlkCells at ke1 ke2
        dsimp only at ke1 ke2 f1 f2
        have p1 := fun e => (ke1 e).1
        have p2 := fun e => (ke1 e).2.1
        have p3 := fun e => (ke1 e).2.2
        have r1 := fun e => (ke2 e).1
        have r2 := fun e => (ke2 e).2.1
        have r3 := fun e => (ke2 e).2.2
        clear hc hc' q1 q2 ke1 ke2
        by_cases e1 : y1 = z1
        · by_cases e2 : y2 = z2
          · by_cases e3 : y3 = z3
            · have HN := Lib.hid (HEX.out (by rw [e1, e2, e3]))
              subst e1
              subst e2
              subst e3
              clear HEX HNE
              go_wp2
              refine wp_region_ext (by kernel_rfl) (by kernel_rfl) ?_
              repeat (go_big_quiet_step (fail))
              refine wpQuiet_nil ?_
              intro w9 hw'
              obtain ⟨e9, he9⟩ := hw'
              have hb9 := e9.below
              rw [← he9] at hb9
              clear he9 e9
              try dsimp only
              go_wp2
              first
                | (go_roundw
                   case rel => (exact ⟨k + 1, hlt, by go_num, HN.out, bon HB.out hb9⟩)
                   case measure => (simp [intOf]; omega))
                | (refine ⟨?_, ?_⟩
                   · (exact ⟨k + 1, hlt, by go_num, HN.out, bon HB.out hb9⟩)
                   · (simp [intOf]; omega))
            · have e9 : (y3 == z3) = false := by simp [e3]
              have HF : Hid (decide (a = b) = false) := Lib.hid (HNE.out (by simp [e3]))
              subst e1
              subst e2
              clear HEX HNE e3
              go_wp2
              refine wp_region_ext (by kernel_rfl) (by kernel_rfl) ?_
              repeat (go_big_quiet_step (fail))
              refine wpQuiet_nil ?_
              intro w9 hw'
              obtain ⟨e9, he9⟩ := hw'
              have hb9 := e9.below
              rw [← he9] at hb9
              clear he9 e9
              try dsimp only
              go_wp2
              go_ret
              exact ⟨ret_bool HF.out.symm, bon HB.out hb9⟩
          · have e9 : (y2 == z2) = false := by simp [e2]
            have HF : Hid (decide (a = b) = false) := Lib.hid (HNE.out (by simp [e2]))
            subst e1
            clear HEX HNE e2
            go_wp2
            refine wp_region_ext (by kernel_rfl) (by kernel_rfl) ?_
            repeat (go_big_quiet_step (fail))
            refine wpQuiet_nil ?_
            intro w9 hw'
            obtain ⟨e9, he9⟩ := hw'
            have hb9 := e9.below
            rw [← he9] at hb9
            clear he9 e9
            try dsimp only
            go_wp2
            go_ret
            exact ⟨ret_bool HF.out.symm, bon HB.out hb9⟩
        · have e9 : (y1 == z1) = false := by simp [e1]
          have HF : Hid (decide (a = b) = false) := Lib.hid (HNE.out (by simp [e1]))
          clear HEX HNE e1
          go_wp2
          refine wp_region_ext (by kernel_rfl) (by kernel_rfl) ?_
          repeat (go_big_quiet_step (fail))
          refine wpQuiet_nil ?_
          intro w9 hw'
          obtain ⟨e9, he9⟩ := hw'
          have hb9 := e9.below
          rw [← he9] at hb9
          clear he9 e9
          try dsimp only
          go_wp2
          go_ret
          exact ⟨ret_bool HF.out.symm, bon HB.out hb9⟩
      · obtain rfl : k = a.length := by omega
        have HF : Hid (decide (a = b) = true) := Lib.hid (decide_eq_true (ixK_ext HE2.out fun j hj => HALL.out j hj))
        go_wp2
        go_ret
        exact ⟨ret_bool HF.out.symm, HB.out⟩
  · have g2 : ((a.length : Int) != (b.length : Int)) = true := by simp; omega
    have HF : Hid (decide (a = b) = false) := Lib.hid (decide_eq_false fun e => e2 (by rw [e]))
    clear e2
    go_wp2
    go_ret
    exact ⟨ret_bool HF.out.symm, Below.refl _ _⟩
structure SmSt (w : World) (ca cb : List Value) (W : World) : Prop where
  b1 : Blk W w.heap.size ca 30
  b2 : Blk W (w.heap.size + 1) cb 30
  below : Below w.heap.size w W
theorem SmSt.on {w W W' : World} {ca cb : List Value} (h : SmSt w ca cb W) (hb : Below W.heap.size W W') : SmSt w ca cb W' := ⟨h.b1.below hb, h.b2.below hb, bon h.below hb⟩
def S41Rel (w : World) (ca cb : List Value) (a b : List WY) (i : Value) (wx : World) : Prop := ∃ k, k ≤ a.length ∧ i = .int .i64 k ∧ (∀ j, j < k → ixY a j = ixY b j) ∧ SmSt w ca cb wx
def sameX (x y : XP) : Bool := decide (x.whys = y.whys) && decide (x.rest = y.rest)
set_option maxHeartbeats 4000000 in
set_option maxRecDepth 100000 in
theorem same41_any (va vb : Value) (x y : XP) (w : World) (ha : ExplIs w va x) (hb : ExplIs w vb y) :
    Calls Tryz.prog 15 #[va, vb] w fun e w' => e = .returned (.bool (sameX x y)) ∧ Below w.heap.size w w' := by
  obtain ⟨va1, va2, rfl, ha, hra⟩ := ha
  obtain ⟨vb1, vb2, rfl, hb, hrb⟩ := hb
  obtain ⟨a1, c1, rfl, -, hl1, -, hc1⟩ := ha.form
  obtain ⟨a2, c2, rfl, -, hl2, -, hc2⟩ := hb.form
  have F1 := Lib.hid ha.2
  have F2 := Lib.hid hb.2
  have HC1 := Lib.hid hc1
  have HC2 := Lib.hid hc2
  have HRA := Lib.hid hra
  have HRB := Lib.hid hrb
  obtain ⟨xw, xr⟩ := x
  obtain ⟨yw, yr⟩ := y
  dsimp only at *
  have HFX : Hid (xw ≠ yw → sameX ⟨xw, xr⟩ ⟨yw, yr⟩ = false) := Lib.hid fun h => by unfold sameX; rw [decide_eq_false h]; rfl
  have HTX : Hid (xw = yw → sameX ⟨xw, xr⟩ ⟨yw, yr⟩ = decide (xr = yr)) := Lib.hid fun h => by unfold sameX; rw [decide_eq_true h]; rfl
  clear ha hb hc1 hc2 hra hrb
  go_enter Tryz.func15, Tryz.ntmps15
  go_upto_region 1 with fail
  have HS0 : Hid (SmSt w [.slice a1 xw.length c1, va2] [.slice a2 yw.length c2, vb2] ((w.alloc (.cells #[.slice a1 xw.length c1, va2] 30)).alloc (.cells #[.slice a2 yw.length c2, vb2] 30))) := Lib.hid
    ⟨(Blk.new w [.slice a1 xw.length c1, va2] _).alloc _, Blk.new2 w _ [.slice a2 yw.length c2, vb2] _, bal (bal (Below.refl _ _) _) _⟩
  have kx1 := HS0.out.b1.cell
  have kx2 := HS0.out.b2.cell
  generalize (w.alloc (.cells #[.slice a1 xw.length c1, va2] 30)).alloc (.cells #[.slice a2 yw.length c2, vb2] 30) = W at *
  by_cases e2 : xw.length = yw.length
  · have g2 : ((xw.length : Int) != (yw.length : Int)) = false := by simp [e2]
    have HE2 := Lib.hid e2
    clear e2
    go_wp2
    go_loopw [16] (fun i wx => S41Rel w [.slice a1 xw.length c1, va2] [.slice a2 yw.length c2, vb2] xw yw i wx) (fun i _ => xw.length - (intOf i).toNat)
    case atStart => exact ⟨0, Nat.zero_le _, rfl, fun j hj => absurd hj (Nat.not_lt_zero _), HS0.out⟩
    case round =>
      obtain ⟨k, hk, rfl, hall, hst⟩ := hrel
      have HALL := Lib.hid hall
      have HS := Lib.hid hst
      have kr1 := hst.b1.cell
      have kr2 := hst.b2.cell
      clear hall hst kx1 kx2
      by_cases hlt : k < xw.length
      · have hlt2 : k < yw.length := by have := HE2.out; omega
        obtain ⟨b1, o1, rfl, hb1, hc⟩ := HC1.out (by omega)
        obtain ⟨b2, o2, rfl, hb2, hc'⟩ := HC2.out (by omega)
        have hz := HS.out.below.size
        have ke1 : ∀ e : Ext wr, WhyCells e.world b1 (o1 + k * 3) (ixY xw k) := fun e => ((hc k hlt).below HS.out.below hb1).below e.below (by omega)
        have ke2 : ∀ e : Ext wr, WhyCells e.world b2 (o2 + k * 3) (ixY yw k) := fun e => ((hc' k hlt2).below HS.out.below hb2).below e.below (by omega)
        have kp1 : ∀ e : Ext wr, ∀ o, e.world.cell? ⟨w.heap.size, o, none⟩ = _ := fun e o => (bcell e.below _ o HS.out.b1.lt).trans (HS.out.b1.cell o)
        have kp2 : ∀ e : Ext wr, ∀ o, e.world.cell? ⟨w.heap.size + 1, o, none⟩ = _ := fun e o => (bcell e.below _ o HS.out.b2.lt).trans (HS.out.b2.cell o)
        have f1 := F1.out _ (ixY_mem0 hlt)
        have f2 := F2.out _ (ixY_mem0 hlt2)
        unfold YI InI at f1 f2
        have HEX : Hid (ixY xw k = ixY yw k → ∀ j, j < k + 1 → ixY xw j = ixY yw j) := Lib.hid fun h => all_succ HALL.out h
        have HNE : Hid (ixY xw k ≠ ixY yw k → sameX ⟨xw, xr⟩ ⟨yw, yr⟩ = false) := Lib.hid fun h => HFX.out fun e => h (by rw [e])
        generalize ixY xw k = y at *
        generalize ixY yw k = z at *
        obtain ⟨y1, y2, y3⟩ := y
        obtain ⟨z1, z2, z3⟩ := z
        unfold WhyCells at ke1 ke2
        dsimp only at ke1 ke2 f1 f2
        have p1 := fun e => (ke1 e).1
        have p2 := fun e => (ke1 e).2.1
        have p3 := fun e => (ke1 e).2.2
        have r1 := fun e => (ke2 e).1
        have r2 := fun e => (ke2 e).2.1
        have r3 := fun e => (ke2 e).2.2
        clear hc hc' ke1 ke2
        by_cases e1 : y1 = z1
        · by_cases e2 : y2 = z2
          · by_cases e3 : y3 = z3
            · have HN := Lib.hid (HEX.out (by rw [e1, e2, e3]))
              subst e1
              subst e2
              subst e3
              clear HEX HNE
              go_wp2
              refine wp_region_ext (by kernel_rfl) (by kernel_rfl) ?_
              repeat (go_big_quiet_step (fail))
              refine wpQuiet_nil ?_
              intro w9 hw'
              obtain ⟨e9, he9⟩ := hw'
              have hb9 := e9.below
              rw [← he9] at hb9
              clear he9 e9
              try dsimp only
              go_wp2
              first
                | (go_roundw
                   case rel => (exact ⟨k + 1, hlt, by go_num, HN.out, HS.out.on hb9⟩)
                   case measure => (simp [intOf]; omega))
                | (refine ⟨?_, ?_⟩
                   · (exact ⟨k + 1, hlt, by go_num, HN.out, HS.out.on hb9⟩)
                   · (simp [intOf]; omega))
            · have e9 : (y3 == z3) = false := by simp [e3]
              have HF : Hid (sameX ⟨xw, xr⟩ ⟨yw, yr⟩ = false) := Lib.hid (HNE.out (by simp [e3]))
              subst e1
              subst e2
              clear HEX HNE e3
              go_wp2
              refine wp_region_ext (by kernel_rfl) (by kernel_rfl) ?_
              repeat (go_big_quiet_step (fail))
              refine wpQuiet_nil ?_
              intro w9 hw'
              obtain ⟨e9, he9⟩ := hw'
              have hb9 := e9.below
              rw [← he9] at hb9
              clear he9 e9
              try dsimp only
              go_wp2
              go_ret
              exact ⟨ret_bool HF.out.symm, bon HS.out.below hb9⟩
          · have e9 : (y2 == z2) = false := by simp [e2]
            have HF : Hid (sameX ⟨xw, xr⟩ ⟨yw, yr⟩ = false) := Lib.hid (HNE.out (by simp [e2]))
            subst e1
            clear HEX HNE e2
            go_wp2
            refine wp_region_ext (by kernel_rfl) (by kernel_rfl) ?_
            repeat (go_big_quiet_step (fail))
            refine wpQuiet_nil ?_
            intro w9 hw'
            obtain ⟨e9, he9⟩ := hw'
            have hb9 := e9.below
            rw [← he9] at hb9
            clear he9 e9
            try dsimp only
            go_wp2
            go_ret
            exact ⟨ret_bool HF.out.symm, bon HS.out.below hb9⟩
        · have e9 : (y1 == z1) = false := by simp [e1]
          have HF : Hid (sameX ⟨xw, xr⟩ ⟨yw, yr⟩ = false) := Lib.hid (HNE.out (by simp [e1]))
          clear HEX HNE e1
          go_wp2
          refine wp_region_ext (by kernel_rfl) (by kernel_rfl) ?_
          repeat (go_big_quiet_step (fail))
          refine wpQuiet_nil ?_
          intro w9 hw'
          obtain ⟨e9, he9⟩ := hw'
          have hb9 := e9.below
          rw [← he9] at hb9
          clear he9 e9
          try dsimp only
          go_wp2
          go_ret
          exact ⟨ret_bool HF.out.symm, bon HS.out.below hb9⟩
      · obtain rfl : k = xw.length := by omega
        have HF := Lib.hid (HTX.out (ixY_ext HE2.out fun j hj => HALL.out j hj))
        go_wp2_with (go_at_call 18; (with_reducible refine (ints17_any _ _ xr yr _ (HRA.out.below HS.out.below) (HRB.out.below HS.out.below)).mono ?_); rintro e w5 ⟨rfl, hb5⟩)
        go_ret
        exact ⟨ret_bool HF.out.symm, bon HS.out.below hb5⟩
  · have g2 : ((xw.length : Int) != (yw.length : Int)) = true := by simp; omega
    have HF : Hid (sameX ⟨xw, xr⟩ ⟨yw, yr⟩ = false) := Lib.hid (HFX.out fun e => e2 (by rw [e]))
    clear e2
    go_wp2
    go_ret
    exact ⟨ret_bool HF.out.symm, HS0.out.below⟩
theorem Blk.strs {w : World} {b : Nat} {l : List ByteArray} (h : Blk w b (l.map Value.string) 9) (hs : ∀ x ∈ l, x.size ≤ 1000) (hl : l.length ≤ 1000) : Strs w (.slice (some ⟨b, 0, none⟩) l.length l.length) l := by
  refine ⟨⟨_, l.length, rfl, Nat.le_refl _, by unfold maxLen; omega, by omega, fun _ => ⟨b, 0, rfl, h.lt, fun i hi => ?_⟩⟩, fun i => ?_⟩
  · rw [Nat.zero_add, h.cell]
    simp [ixS, List.getD_eq_getElem?_getD, hi]
  · unfold ixS
    rw [List.getD_eq_getElem?_getD]
    cases e : l[i]? with
    | none => decide
    | some x =>
      have := hs x (List.mem_of_getElem? e)
      simp only [Option.getD_some]
      omega
theorem Blk.rules {w : World} {b : Nat} {L : List RQ} (h : Blk w b (L.flatMap cells6) 64) (hs : ∀ q ∈ L, RuleSl w q.1 q.2.1 q.2.2.1 q.2.2.2) (hl : L.length ≤ 1000) : RulesIs w (.slice (some ⟨b, 0, none⟩) L.length L.length) (L.map (·.1)) := by
  have hg : ∀ i, i < L.length → L.getD i default ∈ L := fun i hi => by
    rw [List.getD_eq_getElem?_getD, List.getElem?_eq_getElem hi]
    exact List.getElem_mem hi
  have hx : ∀ i, i < L.length → ixR (L.map (·.1)) i = (L.getD i default).1 := fun i hi => by
    simp [ixR, List.getD_eq_getElem?_getD, hi]
  refine ⟨fun i => (L.getD i default).2.1, fun i => (L.getD i default).2.2.1, fun i => (L.getD i default).2.2.2, ⟨_, L.length, by rw [List.length_map], by rw [List.length_map]; exact Nat.le_refl _, by unfold maxLen; omega, by rw [List.length_map]; omega, fun _ => ⟨b, 0, rfl, h.lt, fun i hi j hj => ?_⟩⟩, fun i hi => ?_⟩
  · rw [List.length_map] at hi
    show _ = some (ruleCell (ixR (L.map (·.1)) i) (L.getD i default).2.1 (L.getD i default).2.2.1 (L.getD i default).2.2.2 j)
    rw [h.cell, hx i hi, Nat.zero_add, flat6 L i j hi hj]
    rcases (show j = 0 ∨ j = 1 ∨ j = 2 ∨ j = 3 ∨ j = 4 ∨ j = 5 by omega) with rfl | rfl | rfl | rfl | rfl | rfl <;> rfl
  · rw [List.length_map] at hi
    rw [hx i hi]
    exact hs _ (hg i hi)
theorem nil_mins (w : World) : MinsIs w (.slice none 0 0) [] := ⟨fun _ => undef, fun _ => undef, ⟨none, 0, rfl, Nat.le_refl _, by unfold maxLen; omega, by simp, fun h => absurd h (by simp)⟩, fun i hi => absurd hi (by simp)⟩
theorem inI_small {x : Int} (h : -1000000 ≤ x ∧ x ≤ 1000000) : InI x := by unfold InI; omega
end Go.Proofs.YtgakoainjgjimaaGreatDoor
namespace Go.Proofs.YtgakoainjgjimaaGreatDoor
open Go.RowKit Go.Shelf
attribute [local go_sem] Oper.semAt_some
theorem IsB.own {b : Nat} {bs : List Value} {X Y : World} {row : Option Nat} (h : IsB b b bs X) (hg : X.grownBy Y row) (hr : ∀ r, row = some r → ∃ o : Obj, X.heap[r]? = some o ∧ o.isCells = false) : IsB b b bs Y := by
  have key : ∀ p, BAt b b p bs X → BAt b b p bs Y := fun p ⟨h1, v, h2, h3, h4⟩ => by
    have hne : ∀ k (o : Obj), X.heap[k]? = some o → o.isCells = true → row ≠ some k := fun k o hk hc e => by
      obtain ⟨o2, ho, hc2⟩ := hr k e
      rw [hk] at ho
      cases ho
      rw [hc] at hc2
      cases hc2
    refine ⟨h1, v, (hg.block b (Array.getElem?_eq_some_iff.1 h2).1 (fun e => hne b _ h2 rfl e.symm)).trans h2, h3.kept hg ?_, h4⟩
    rcases h3.2 with ⟨rfl, _⟩ | ⟨g, cap, cur, fz, rfl, _, hgg, _⟩
    · exact .inl rfl
    · exact .inr (fun e => hne g _ hgg rfl e.symm)
  exact h.elim (fun x => .inl (key _ x)) (fun x => .inr (key _ x))
end Go.Proofs.YtgakoainjgjimaaGreatDoor
namespace Go.Proofs.YtgakoainjgjimaaGreatDoor
open Go.RowKit
def twoP : GP := ⟨2, [⟨#[97]⟩, ⟨#[98]⟩], [], [⟨false, [1], false, 0, [-2], []⟩, ⟨false, [2], false, 0, [-1], []⟩], []⟩
def ct1 : PBC := ⟨[1, 2, -4], [1, 2, 2], 2⟩
def ct2 : PBC := ⟨[-1, -2, 4], [1, 2, 2], 2⟩
def ct3 : PBC := ⟨[3, -4], [1, 1], 1⟩
theorem d1 : Lib.decDigits 1 = [49] := by unfold Lib.decDigits; rfl
theorem d2 : Lib.decDigits 2 = [50] := by unfold Lib.decDigits; rfl
theorem d3 : Lib.decDigits 3 = [51] := by unfold Lib.decDigits; rfl
def withP (n : Nat) (R : List GR) : GP := ⟨n, List.replicate n ⟨#[]⟩, [], R, []⟩
def exR : List GR := [⟨false, [1], false, 0, [-2], []⟩, ⟨true, [3], false, 0, [1], []⟩, ⟨false, [4, 5], false, 0, [3], []⟩, ⟨false, [5], true, 2, [1, 3, 6], [1, 1, 5]⟩, ⟨false, [2], false, 0, [-1], []⟩]
def exP : GP := withP 6 exR
def eyR : List GR := [⟨false, [1, 2], false, 0, [], []⟩, ⟨false, [1], false, 0, [2], []⟩, ⟨false, [2], false, 0, [1], []⟩]
def eyP : GP := withP 2 eyR
theorem Blk.intsL {w : World} {b : Nat} {l : List Int} (h : Blk w b (l.map (Value.int .i64)) 3) (hs : (l.all fun x => decide (-1000 ≤ x) && decide (x ≤ 1000)) && decide (l.length ≤ 1000) = true) : Ints w (.slice (some ⟨b, 0, none⟩) l.length l.length) l := by
  simp only [Bool.and_eq_true, List.all_eq_true, decide_eq_true_eq] at hs
  refine h.ints (fun i => ?_) (by have := hs.2; omega)
  unfold ix InI
  rw [List.getD_eq_getElem?_getD]
  cases e : l[i]? with
  | none => simp
  | some x =>
    have := hs.1 x (List.mem_of_getElem? e)
    simp only [Option.getD_some]
    omega
set_option maxHeartbeats 1000000 in
set_option maxRecDepth 100000 in
theorem with_any (n : Nat) (hn : n ≤ 1000) (vr : Value) (R : List GR) (w : World) (h : RulesIs w vr R) :
    Calls Tryz.prog 33 #[.int .i64 (n : Int), vr] w fun e w' => e = .returned (.agg #[.int .i64 (n : Int), .slice (some ⟨w.heap.size + 1, 0, none⟩) n n, .slice none 0 0, vr, .slice none 0 0]) ∧ Blk w' (w.heap.size + 1) ((List.replicate n (⟨#[]⟩ : ByteArray)).map Value.string) 9 ∧ Below w.heap.size w w' := by
  obtain ⟨a1, c1, rfl, -⟩ := h.form
  have hmk : ∀ w : World, (Instr.makeSlice 22 (.int .i64 (n : Int)) (.int .i64 (n : Int))).run Tryz.prog w = .ok (.slice (some ⟨w.heap.size, 0, none⟩) n n) (w.alloc (.cells (madeCells #[.string ⟨#[]⟩] n) 9)) := fun w => run_make_row' _ _ _ _ Tryz.underlying22 infoS rfl .i64 .i64 n (by omega) (by omega) w
  have HR := Lib.hid h
  clear h
  go_enter Tryz.func33, Tryz.ntmps33
  go_wp2
  generalize hW : World.alloc _ (.cells (madeCells #[.string ⟨#[]⟩] n) 9) = W1
  have b0 : Blk W1 w.heap.size [.int .i64 (n : Int), .slice (some ⟨w.heap.size + 1, 0, none⟩) n n, .slice none 0 0, .slice a1 R.length c1, .slice none 0 0] 27 := by rw [← hW]; (repeat first | (refine Blk.newAt _ _ _ ?_; first | rfl | (simp only [World.size_alloc]; done) | (simp only [World.size_alloc]; omega)) | refine Blk.alloc ?_ _)
  have b1 : Blk W1 (w.heap.size + 1) ((List.replicate n (⟨#[]⟩ : ByteArray)).map Value.string) 9 := by
    rw [← hW, made_list, List.map_replicate]; (repeat first | (refine Blk.newAt _ _ _ ?_; first | rfl | (simp only [World.size_alloc]; done) | (simp only [World.size_alloc]; omega)) | refine Blk.alloc ?_ _)
  have hb : Below w.heap.size w W1 := by rw [← hW]; exact bal (bal (Below.refl _ _) _) _
  have kx := b0.cell
  clear hW
  exact bodyPost_ret (v := .agg #[.int .i64 (n : Int), .slice (some ⟨w.heap.size + 1, 0, none⟩) n n, .slice none 0 0, .slice a1 R.length c1, .slice none 0 0]) (by simp [results, Tryz.f33, go_sem, kx]) rfl ⟨rfl, b1, hb⟩
theorem with_prog {n : Nat} (hn : n ≤ 1000) {R : List GR} {vr : Value} {b : Nat} {w : World} (hb : Blk w b ((List.replicate n (⟨#[]⟩ : ByteArray)).map Value.string) 9) (hr : RulesIs w vr R) :
    ProgIs w (.agg #[.int .i64 (n : Int), .slice (some ⟨b, 0, none⟩) n n, .slice none 0 0, vr, .slice none 0 0]) (withP n R) := by
  have hs := hb.strs (fun x hx => by rw [List.eq_of_mem_replicate hx]; decide) (by simp; omega)
  rw [List.length_replicate] at hs
  exact ⟨_, _, _, _, rfl, ⟨inI_small (by show -1000000 ≤ (n : Int) ∧ (n : Int) ≤ 1000000; omega), hs, nil_ints _, hr, nil_mins _⟩⟩
set_option maxHeartbeats 4000000 in
set_option maxRecDepth 100000 in
theorem example_any (w : World) :
    Calls Tryz.prog 32 #[] w fun e w' => ∃ v, e = .returned v ∧ (∃ an nn cn ar nr cr, v = .agg #[.int .i64 6, .slice an nn cn, .slice none 0 0, .slice ar nr cr, .slice none 0 0]) ∧ ProgIs w' v exP ∧ Below w.heap.size w w' := by
  go_enter Tryz.func32, Tryz.ntmps32
  go_wp2_with fail
  generalize hW : World.alloc _ (.cells #[.bool false, .slice (some ⟨w.heap.size + 1, 0, none⟩) 1 1, .bool false, .int .i64 0, .slice (some ⟨w.heap.size + 1 + 1, 0, none⟩) 1 1, .slice none 0 0, .bool true, .slice (some ⟨w.heap.size + 1 + 1 + 1, 0, none⟩) 1 1, .bool false, .int .i64 0, .slice (some ⟨w.heap.size + 1 + 1 + 1 + 1, 0, none⟩) 1 1, .slice none 0 0, .bool false, .slice (some ⟨w.heap.size + 1 + 1 + 1 + 1 + 1, 0, none⟩) 2 2, .bool false, .int .i64 0, .slice (some ⟨w.heap.size + 1 + 1 + 1 + 1 + 1 + 1, 0, none⟩) 1 1, .slice none 0 0, .bool false, .slice (some ⟨w.heap.size + 1 + 1 + 1 + 1 + 1 + 1 + 1, 0, none⟩) 1 1, .bool true, .int .i64 2, .slice (some ⟨w.heap.size + 1 + 1 + 1 + 1 + 1 + 1 + 1 + 1, 0, none⟩) 3 3, .slice (some ⟨w.heap.size + 1 + 1 + 1 + 1 + 1 + 1 + 1 + 1 + 1, 0, none⟩) 3 3, .bool false, .slice (some ⟨w.heap.size + 1 + 1 + 1 + 1 + 1 + 1 + 1 + 1 + 1 + 1, 0, none⟩) 1 1, .bool false, .int .i64 0, .slice (some ⟨w.heap.size + 1 + 1 + 1 + 1 + 1 + 1 + 1 + 1 + 1 + 1 + 1, 0, none⟩) 1 1, .slice none 0 0] 64) = W1
  have b1 : Blk W1 (w.heap.size + 1) ([1].map (Value.int .i64)) 3 := by rw [← hW]; (repeat first | (refine Blk.newAt _ _ _ ?_; first | rfl | (simp only [World.size_alloc]; done) | (simp only [World.size_alloc]; omega)) | refine Blk.alloc ?_ _)
  have b2 : Blk W1 (w.heap.size + 1 + 1) ([-2].map (Value.int .i64)) 3 := by rw [← hW]; (repeat first | (refine Blk.newAt _ _ _ ?_; first | rfl | (simp only [World.size_alloc]; done) | (simp only [World.size_alloc]; omega)) | refine Blk.alloc ?_ _)
  have b3 : Blk W1 (w.heap.size + 1 + 1 + 1) ([3].map (Value.int .i64)) 3 := by rw [← hW]; (repeat first | (refine Blk.newAt _ _ _ ?_; first | rfl | (simp only [World.size_alloc]; done) | (simp only [World.size_alloc]; omega)) | refine Blk.alloc ?_ _)
  have b4 : Blk W1 (w.heap.size + 1 + 1 + 1 + 1) ([1].map (Value.int .i64)) 3 := by rw [← hW]; (repeat first | (refine Blk.newAt _ _ _ ?_; first | rfl | (simp only [World.size_alloc]; done) | (simp only [World.size_alloc]; omega)) | refine Blk.alloc ?_ _)
  have b5 : Blk W1 (w.heap.size + 1 + 1 + 1 + 1 + 1) ([4, 5].map (Value.int .i64)) 3 := by rw [← hW]; (repeat first | (refine Blk.newAt _ _ _ ?_; first | rfl | (simp only [World.size_alloc]; done) | (simp only [World.size_alloc]; omega)) | refine Blk.alloc ?_ _)
  have b6 : Blk W1 (w.heap.size + 1 + 1 + 1 + 1 + 1 + 1) ([3].map (Value.int .i64)) 3 := by rw [← hW]; (repeat first | (refine Blk.newAt _ _ _ ?_; first | rfl | (simp only [World.size_alloc]; done) | (simp only [World.size_alloc]; omega)) | refine Blk.alloc ?_ _)
  have b7 : Blk W1 (w.heap.size + 1 + 1 + 1 + 1 + 1 + 1 + 1) ([5].map (Value.int .i64)) 3 := by rw [← hW]; (repeat first | (refine Blk.newAt _ _ _ ?_; first | rfl | (simp only [World.size_alloc]; done) | (simp only [World.size_alloc]; omega)) | refine Blk.alloc ?_ _)
  have b8 : Blk W1 (w.heap.size + 1 + 1 + 1 + 1 + 1 + 1 + 1 + 1) ([1, 3, 6].map (Value.int .i64)) 3 := by rw [← hW]; (repeat first | (refine Blk.newAt _ _ _ ?_; first | rfl | (simp only [World.size_alloc]; done) | (simp only [World.size_alloc]; omega)) | refine Blk.alloc ?_ _)
  have b9 : Blk W1 (w.heap.size + 1 + 1 + 1 + 1 + 1 + 1 + 1 + 1 + 1) ([1, 1, 5].map (Value.int .i64)) 3 := by rw [← hW]; (repeat first | (refine Blk.newAt _ _ _ ?_; first | rfl | (simp only [World.size_alloc]; done) | (simp only [World.size_alloc]; omega)) | refine Blk.alloc ?_ _)
  have b10 : Blk W1 (w.heap.size + 1 + 1 + 1 + 1 + 1 + 1 + 1 + 1 + 1 + 1) ([2].map (Value.int .i64)) 3 := by rw [← hW]; (repeat first | (refine Blk.newAt _ _ _ ?_; first | rfl | (simp only [World.size_alloc]; done) | (simp only [World.size_alloc]; omega)) | refine Blk.alloc ?_ _)
  have b11 : Blk W1 (w.heap.size + 1 + 1 + 1 + 1 + 1 + 1 + 1 + 1 + 1 + 1 + 1) ([-1].map (Value.int .i64)) 3 := by rw [← hW]; (repeat first | (refine Blk.newAt _ _ _ ?_; first | rfl | (simp only [World.size_alloc]; done) | (simp only [World.size_alloc]; omega)) | refine Blk.alloc ?_ _)
  have br : Blk W1 (w.heap.size + 1 + 1 + 1 + 1 + 1 + 1 + 1 + 1 + 1 + 1 + 1 + 1) ([((⟨false, [1], false, 0, [-2], []⟩ : GR), Value.slice (some ⟨w.heap.size + 1, 0, none⟩) 1 1, Value.slice (some ⟨w.heap.size + 1 + 1, 0, none⟩) 1 1, Value.slice none 0 0), ((⟨true, [3], false, 0, [1], []⟩ : GR), Value.slice (some ⟨w.heap.size + 1 + 1 + 1, 0, none⟩) 1 1, Value.slice (some ⟨w.heap.size + 1 + 1 + 1 + 1, 0, none⟩) 1 1, Value.slice none 0 0), ((⟨false, [4, 5], false, 0, [3], []⟩ : GR), Value.slice (some ⟨w.heap.size + 1 + 1 + 1 + 1 + 1, 0, none⟩) 2 2, Value.slice (some ⟨w.heap.size + 1 + 1 + 1 + 1 + 1 + 1, 0, none⟩) 1 1, Value.slice none 0 0), ((⟨false, [5], true, 2, [1, 3, 6], [1, 1, 5]⟩ : GR), Value.slice (some ⟨w.heap.size + 1 + 1 + 1 + 1 + 1 + 1 + 1, 0, none⟩) 1 1, Value.slice (some ⟨w.heap.size + 1 + 1 + 1 + 1 + 1 + 1 + 1 + 1, 0, none⟩) 3 3, Value.slice (some ⟨w.heap.size + 1 + 1 + 1 + 1 + 1 + 1 + 1 + 1 + 1, 0, none⟩) 3 3), ((⟨false, [2], false, 0, [-1], []⟩ : GR), Value.slice (some ⟨w.heap.size + 1 + 1 + 1 + 1 + 1 + 1 + 1 + 1 + 1 + 1, 0, none⟩) 1 1, Value.slice (some ⟨w.heap.size + 1 + 1 + 1 + 1 + 1 + 1 + 1 + 1 + 1 + 1 + 1, 0, none⟩) 1 1, Value.slice none 0 0)].flatMap cells6) 64 := by rw [← hW]; (repeat first | (refine Blk.newAt _ _ _ ?_; first | rfl | (simp only [World.size_alloc]; done) | (simp only [World.size_alloc]; omega)) | refine Blk.alloc ?_ _)
  have hb : Below w.heap.size w W1 := by rw [← hW]; repeat first | exact Below.refl _ _ | refine bal ?_ _
  have bx : Blk W1 w.heap.size [.int .i64 0, .slice none 0 0, .slice none 0 0, .slice none 0 0, .slice none 0 0] 27 := by rw [← hW]; (repeat first | (refine Blk.newAt _ _ _ ?_; first | rfl | (simp only [World.size_alloc]; done) | (simp only [World.size_alloc]; omega)) | refine Blk.alloc ?_ _)
  clear hW
  have hR : RulesIs W1 (.slice (some ⟨w.heap.size + 1 + 1 + 1 + 1 + 1 + 1 + 1 + 1 + 1 + 1 + 1 + 1, 0, none⟩) 5 5) [⟨false, [1], false, 0, [-2], []⟩, ⟨true, [3], false, 0, [1], []⟩, ⟨false, [4, 5], false, 0, [3], []⟩, ⟨false, [5], true, 2, [1, 3, 6], [1, 1, 5]⟩, ⟨false, [2], false, 0, [-1], []⟩] := br.rules (fun q hq => by
    simp only [List.mem_cons, List.not_mem_nil, or_false] at hq
    rcases hq with rfl | rfl | rfl | rfl | rfl
    · exact ⟨b1.intsL (by decide), b2.intsL (by decide), nil_ints _, (show InI 0 from inI_small (by decide))⟩
    · exact ⟨b3.intsL (by decide), b4.intsL (by decide), nil_ints _, (show InI 0 from inI_small (by decide))⟩
    · exact ⟨b5.intsL (by decide), b6.intsL (by decide), nil_ints _, (show InI 0 from inI_small (by decide))⟩
    · exact ⟨b7.intsL (by decide), b8.intsL (by decide), b9.intsL (by decide), (show InI 2 from inI_small (by decide))⟩
    · exact ⟨b10.intsL (by decide), b11.intsL (by decide), nil_ints _, (show InI 0 from inI_small (by decide))⟩) (by simp)
  refine (with_any 6 (by decide) _ exR W1 hR).mono ?_
  rintro e w2 ⟨rfl, hn, hb2⟩
  have hlt := bx.lt
  have hx2 := bx.below hb2
  have kf := hx2.free
  have kc2 := hx2.cell
  have HR2 := Lib.hid hR
  clear hR
  go_wp2_with fail
  have hx9 := ((((hx2.set 0 (.int .i64 6)).set 1 (.slice (some ⟨W1.heap.size + 1, 0, none⟩) 6 6)).set 2 (.slice none 0 0)).set 3 (.slice (some ⟨w.heap.size + 1 + 1 + 1 + 1 + 1 + 1 + 1 + 1 + 1 + 1 + 1 + 1, 0, none⟩) 5 5)).set 4 (.slice none 0 0)
  simp only [List.set_cons_zero, List.set_cons_succ] at hx9
  have hsame : ∀ i, i ≠ w.heap.size → (((((w2.setCell ⟨w.heap.size, 0, none⟩ (.int .i64 6)).setCell ⟨w.heap.size, 1, none⟩ (.slice (some ⟨W1.heap.size + 1, 0, none⟩) 6 6)).setCell ⟨w.heap.size, 2, none⟩ (.slice none 0 0)).setCell ⟨w.heap.size, 3, none⟩ (.slice (some ⟨w.heap.size + 1 + 1 + 1 + 1 + 1 + 1 + 1 + 1 + 1 + 1 + 1 + 1, 0, none⟩) 5 5)).setCell ⟨w.heap.size, 4, none⟩ (.slice none 0 0)).heap[i]? = w2.heap[i]? := fun i h1 =>
    (Below.heap_setCell _ _ _ _ h1).trans ((Below.heap_setCell _ _ _ _ h1).trans ((Below.heap_setCell _ _ _ _ h1).trans ((Below.heap_setCell _ _ _ _ h1).trans (Below.heap_setCell _ _ _ _ h1))))
  have hbel := (((((bon hb hb2).setCell (p := ⟨w.heap.size, 0, none⟩) (Nat.le_refl _) (.int .i64 6)).setCell (p := ⟨w.heap.size, 1, none⟩) (Nat.le_refl _) (.slice (some ⟨W1.heap.size + 1, 0, none⟩) 6 6)).setCell (p := ⟨w.heap.size, 2, none⟩) (Nat.le_refl _) (.slice none 0 0)).setCell (p := ⟨w.heap.size, 3, none⟩) (Nat.le_refl _) (.slice (some ⟨w.heap.size + 1 + 1 + 1 + 1 + 1 + 1 + 1 + 1 + 1 + 1 + 1 + 1, 0, none⟩) 5 5)).setCell (p := ⟨w.heap.size, 4, none⟩) (Nat.le_refl _) (.slice none 0 0)
  have kr9 := hx9.cell
  clear kc2 kf
  generalize (((((w2.setCell ⟨w.heap.size, 0, none⟩ (.int .i64 6)).setCell ⟨w.heap.size, 1, none⟩ (.slice (some ⟨W1.heap.size + 1, 0, none⟩) 6 6)).setCell ⟨w.heap.size, 2, none⟩ (.slice none 0 0)).setCell ⟨w.heap.size, 3, none⟩ (.slice (some ⟨w.heap.size + 1 + 1 + 1 + 1 + 1 + 1 + 1 + 1 + 1 + 1 + 1 + 1, 0, none⟩) 5 5)).setCell ⟨w.heap.size, 4, none⟩ (.slice none 0 0)) = W9 at *
  have hsm : ∀ i, i ≠ w.heap.size → i < W1.heap.size → W9.heap[i]? = W1.heap[i]? := fun i h1 h2 => (hsame i h1).trans (hb2.block i h2)
  have c1 := b1.same (hsm _ (by omega) b1.lt)
  have c2 := b2.same (hsm _ (by omega) b2.lt)
  have c3 := b3.same (hsm _ (by omega) b3.lt)
  have c4 := b4.same (hsm _ (by omega) b4.lt)
  have c5 := b5.same (hsm _ (by omega) b5.lt)
  have c6 := b6.same (hsm _ (by omega) b6.lt)
  have c7 := b7.same (hsm _ (by omega) b7.lt)
  have c8 := b8.same (hsm _ (by omega) b8.lt)
  have c9 := b9.same (hsm _ (by omega) b9.lt)
  have c10 := b10.same (hsm _ (by omega) b10.lt)
  have c11 := b11.same (hsm _ (by omega) b11.lt)
  have cr := br.same (hsm _ (by omega) br.lt)
  have hR : RulesIs W9 (.slice (some ⟨w.heap.size + 1 + 1 + 1 + 1 + 1 + 1 + 1 + 1 + 1 + 1 + 1 + 1, 0, none⟩) 5 5) [⟨false, [1], false, 0, [-2], []⟩, ⟨true, [3], false, 0, [1], []⟩, ⟨false, [4, 5], false, 0, [3], []⟩, ⟨false, [5], true, 2, [1, 3, 6], [1, 1, 5]⟩, ⟨false, [2], false, 0, [-1], []⟩] := cr.rules (fun q hq => by
    simp only [List.mem_cons, List.not_mem_nil, or_false] at hq
    rcases hq with rfl | rfl | rfl | rfl | rfl
    · exact ⟨c1.intsL (by decide), c2.intsL (by decide), nil_ints _, (show InI 0 from inI_small (by decide))⟩
    · exact ⟨c3.intsL (by decide), c4.intsL (by decide), nil_ints _, (show InI 0 from inI_small (by decide))⟩
    · exact ⟨c5.intsL (by decide), c6.intsL (by decide), nil_ints _, (show InI 0 from inI_small (by decide))⟩
    · exact ⟨c7.intsL (by decide), c8.intsL (by decide), c9.intsL (by decide), (show InI 2 from inI_small (by decide))⟩
    · exact ⟨c10.intsL (by decide), c11.intsL (by decide), nil_ints _, (show InI 0 from inI_small (by decide))⟩) (by simp)
  refine bodyPost_ret (v := .agg #[.int .i64 6, .slice (some ⟨W1.heap.size + 1, 0, none⟩) 6 6, .slice none 0 0, .slice (some ⟨w.heap.size + 1 + 1 + 1 + 1 + 1 + 1 + 1 + 1 + 1 + 1 + 1 + 1, 0, none⟩) 5 5, .slice none 0 0]) (by simp [results, Tryz.f32, go_sem, kr9]) rfl ⟨_, rfl, ⟨_, _, _, _, _, _, rfl⟩, with_prog (by decide) (hn.same (hsame _ (by omega))) hR, hbel⟩
def exX : XP := ⟨[⟨1, 0, 1⟩, ⟨3, 1, 2⟩, ⟨5, 2, 3⟩], []⟩
def eyX : XP := ⟨[], [1, 2]⟩
theorem ex_e : xE exP [1, 3, 5] = 0 := by kernel_rfl
theorem ex_x : explX exP [1, 3, 5] = exX := by kernel_rfl
theorem ex_c : chkX exP [1, 3, 5] exX = true := by kernel_rfl
theorem ex_b4 : blksX exP [1, 3, 5] 4 = ([⟨2, 3, 5⟩], 0) := by kernel_rfl
theorem ex_b2 : blksX exP [1, 3, 5] 2 = ([⟨4, 1, -1⟩], 0) := by kernel_rfl
theorem ex_b6 : blksX exP [1, 3, 5] 6 = ([], 0) := by kernel_rfl
theorem ex_e0 : xE exP [] = 410 := by kernel_rfl
theorem ey_e : xE eyP [1, 2] = 0 := by kernel_rfl
theorem ey_x : explX eyP [1, 2] = eyX := by kernel_rfl
theorem ex_sup {b : Int} : b ∈ ([1, 3, 5] : List Int) ↔ SupR exP exX 5 b := by
  have h5 : SupR exP exX 5 5 := .base
  have h3 : SupR exP exX 5 3 := SupR.step (y := ⟨5, 2, 3⟩) (z := ⟨3, 1, 2⟩) (by decide) (by decide) h5 (by decide) (by decide)
  have h1 : SupR exP exX 5 1 := SupR.step (y := ⟨3, 1, 2⟩) (z := ⟨1, 0, 1⟩) (by decide) (by decide) h3 (by decide) (by decide)
  constructor
  · intro h
    simp only [List.mem_cons, List.not_mem_nil, or_false] at h
    rcases h with rfl | rfl | rfl
    · exact h1
    · exact h3
    · exact h5
  · intro h
    cases h with
    | base => decide
    | @step y z hy hz h1 h2 h3 =>
      simp only [exX, List.mem_cons, List.not_mem_nil, or_false] at hz
      rcases hz with rfl | rfl | rfl <;> decide
theorem it0 : itS 0 = ⟨#[48]⟩ := by unfold itS Lib.itoa; rw [if_neg (by decide)]; unfold Lib.decDigits; rfl
theorem it1 : itS 1 = ⟨#[49]⟩ := by unfold itS Lib.itoa; rw [if_neg (by decide)]; unfold Lib.decDigits; rfl
theorem it2 : itS 2 = ⟨#[50]⟩ := by unfold itS Lib.itoa; rw [if_neg (by decide)]; unfold Lib.decDigits; rfl
theorem it3 : itS 3 = ⟨#[51]⟩ := by unfold itS Lib.itoa; rw [if_neg (by decide)]; unfold Lib.decDigits; rfl
theorem it5 : itS 5 = ⟨#[53]⟩ := by unfold itS Lib.itoa; rw [if_neg (by decide)]; unfold Lib.decDigits; rfl
theorem nm1 : nameX exP.names 1 = ⟨#[35, 49]⟩ := by unfold nameX; rw [if_neg (by decide), it1]; rfl
theorem nm3 : nameX exP.names 3 = ⟨#[35, 51]⟩ := by unfold nameX; rw [if_neg (by decide), it3]; rfl
theorem nm5 : nameX exP.names 5 = ⟨#[35, 53]⟩ := by unfold nameX; rw [if_neg (by decide), it5]; rfl
theorem ex_text : textX exP.names exX = [35, 49, 32, 98, 121, 32, 48, 32, 108, 101, 118, 101, 108, 32, 49, 10, 35, 51, 32, 98, 121, 32, 49, 32, 108, 101, 118, 101, 108, 32, 50, 10, 35, 53, 32, 98, 121, 32, 50, 32, 108, 101, 118, 101, 108, 32, 51, 10] := by
  simp [textX, whysT, restT, lineX, exX, nm1, nm3, nm5, it0, it1, it2, it3]
theorem SlE {w : World} {vw vr : Value} {x : XP} {B : Nat} (h1 : MineY B vw x.whys w) (h2 : QRow B w vr x.rest) (h3 : x.whys.length ≤ 1000000) (h4 : x.rest.length ≤ 1000000) : ∃ aw cw ar cr, vw = .slice aw x.whys.length cw ∧ vr = .slice ar x.rest.length cr ∧ ExplIs w (.agg #[.slice aw x.whys.length cw, .slice ar x.rest.length cr]) x := by
  obtain ⟨aw, cw, rfl⟩ := h1.slen
  obtain ⟨ar, cr, rfl⟩ := h2.slen
  exact ⟨aw, cw, ar, cr, rfl, rfl, _, _, rfl, h1.whys (by omega), h2.ints (by omega)⟩
theorem explain_ok {v vset : Value} {p : GP} {m : List Int} {w : World} {x : XP} {E : Int} (he : xE p m = E) (hx : (if E = 0 then explX p m else ⟨[], []⟩) = x) (hl : x.whys.length ≤ 1000000 ∧ x.rest.length ≤ 1000000) (h : ProgIs w v p) (hm : Ints w vset m) :
    Calls Tryz.prog 9 #[v, vset] w fun e w' => ∃ aw cw ar cr, e = .returned (.tuple #[.agg #[.slice aw x.whys.length cw, .slice ar x.rest.length cr], .int .i64 E]) ∧ ExplIs w' (.agg #[.slice aw x.whys.length cw, .slice ar x.rest.length cr]) x ∧ Below w.heap.size w w' := by
  refine (explain_any v vset p m w h hm).mono ?_
  rintro e w' ⟨vx, rfl, ⟨vw, vr, rfl, h1, h2⟩, hb⟩
  rw [he] at h1 h2
  rw [hx] at h1 h2
  obtain ⟨aw, cw, ar, cr, rfl, rfl, h3⟩ := SlE h1 h2 hl.1 hl.2
  exact ⟨aw, cw, ar, cr, by rw [he], h3, hb⟩
theorem exX_call {v vset : Value} {w : World} (h : ProgIs w v exP) (hm : Ints w vset [1, 3, 5]) :
    Calls Tryz.prog 9 #[v, vset] w fun e w' => ∃ aw cw ar cr, e = .returned (.tuple #[.agg #[.slice aw 3 cw, .slice ar 0 cr], .int .i64 0]) ∧ ExplIs w' (.agg #[.slice aw 3 cw, .slice ar 0 cr]) exX ∧ Below w.heap.size w w' :=
  explain_ok (x := exX) ex_e (by rw [if_pos rfl]; exact ex_x) (by decide) h hm
theorem ex0_call {v : Value} {w : World} (h : ProgIs w v exP) :
    Calls Tryz.prog 9 #[v, .slice none 0 0] w fun e w' => ∃ aw cw ar cr, e = .returned (.tuple #[.agg #[.slice aw 0 cw, .slice ar 0 cr], .int .i64 410]) ∧ ExplIs w' (.agg #[.slice aw 0 cw, .slice ar 0 cr]) ⟨[], []⟩ ∧ Below w.heap.size w w' :=
  explain_ok (x := ⟨[], []⟩) ex_e0 (by rw [if_neg (by decide)]) (by decide) h (nil_ints _)
theorem eyX_call {v vset : Value} {w : World} (h : ProgIs w v eyP) (hm : Ints w vset [1, 2]) :
    Calls Tryz.prog 9 #[v, vset] w fun e w' => ∃ aw cw ar cr, e = .returned (.tuple #[.agg #[.slice aw 0 cw, .slice ar 2 cr], .int .i64 0]) ∧ ExplIs w' (.agg #[.slice aw 0 cw, .slice ar 2 cr]) eyX ∧ Below w.heap.size w w' :=
  explain_ok (x := eyX) ey_e (by rw [if_pos rfl]; exact ey_x) (by decide) h hm
theorem exC_call {v vset vx : Value} {w : World} (h : ProgIs w v exP) (hm : Ints w vset [1, 3, 5]) (hx : ExplIs w vx exX) :
    Calls Tryz.prog 10 #[v, vset, vx] w fun e w' => e = .returned (.tuple #[.bool true, .int .i64 0]) ∧ Below w.heap.size w w' := by
  have := checkX_any v vset vx exP [1, 3, 5] exX w h hm hx (by decide)
  rw [ex_e, ex_c] at this
  exact this
theorem exS_call {v vset vx : Value} {w : World} (h : ProgIs w v exP) (hm : Ints w vset [1, 3, 5]) (hx : ExplIs w vx exX) :
    Calls Tryz.prog 11 #[v, vset, vx, .int .i64 5] w fun e w' => ∃ a c, e = .returned (.tuple #[.slice a 3 c, .int .i64 0]) ∧ Ints w' (.slice a 3 c) [1, 3, 5] ∧ Below w.heap.size w w' := by
  refine (support_any v vset vx exP [1, 3, 5] exX 5 w h hm hx (by unfold InI; decide) (by decide)).mono ?_
  rintro e w' ⟨vo, out, E, rfl, hq, hb, h1⟩
  rcases h1 with ⟨h1, -⟩ | ⟨-, h1, -⟩ | ⟨-, -, h1, -⟩ | ⟨-, -, -, rfl, hs, ho⟩
  · exact absurd ex_e h1
  · rw [ex_c] at h1; cases h1
  · exact absurd (by decide : (5 : Int) ∈ atomsY exX.whys) h1
  · obtain rfl : out = [1, 3, 5] := sorted_eq hs (by decide) (fun b => (ho b).trans ex_sup.symm)
    obtain ⟨a, c, rfl⟩ := hq.slen
    exact ⟨a, c, rfl, hq.ints (by decide), hb⟩
theorem exB_call {v vset : Value} {a : Int} {l : List BK} {w : World} (hl : blksX exP [1, 3, 5] a = (l, 0)) (h8 : l.length ≤ 1000) (h : ProgIs w v exP) (hm : Ints w vset [1, 3, 5]) :
    Calls Tryz.prog 12 #[v, vset, .int .i64 a] w fun e w' => ∃ b c, e = .returned (.tuple #[.slice b l.length c, .int .i64 0]) ∧ BlksIs w' (.slice b l.length c) l ∧ Below w.heap.size w w' := by
  refine (blocks_any v vset exP [1, 3, 5] a w h hm).mono ?_
  rintro e w' ⟨vo, rfl, h1, hb⟩
  rw [hl] at h1 ⊢
  obtain ⟨b, c, rfl⟩ := h1.slen
  exact ⟨b, c, rfl, h1.blks (by show l.length * 24 ≤ _; omega), hb⟩
theorem exB4 {v vset : Value} {w : World} (h : ProgIs w v exP) (hm : Ints w vset [1, 3, 5]) :
    Calls Tryz.prog 12 #[v, vset, .int .i64 4] w fun e w' => ∃ b c, e = .returned (.tuple #[.slice b 1 c, .int .i64 0]) ∧ BlksIs w' (.slice b 1 c) [⟨2, 3, 5⟩] ∧ Below w.heap.size w w' := exB_call ex_b4 (by decide) h hm
theorem exB2 {v vset : Value} {w : World} (h : ProgIs w v exP) (hm : Ints w vset [1, 3, 5]) :
    Calls Tryz.prog 12 #[v, vset, .int .i64 2] w fun e w' => ∃ b c, e = .returned (.tuple #[.slice b 1 c, .int .i64 0]) ∧ BlksIs w' (.slice b 1 c) [⟨4, 1, -1⟩] ∧ Below w.heap.size w w' := exB_call ex_b2 (by decide) h hm
theorem exB6 {v vset : Value} {w : World} (h : ProgIs w v exP) (hm : Ints w vset [1, 3, 5]) :
    Calls Tryz.prog 12 #[v, vset, .int .i64 6] w fun e w' => ∃ b c, e = .returned (.tuple #[.slice b 0 c, .int .i64 0]) ∧ BlksIs w' (.slice b 0 c) [] ∧ Below w.heap.size w w' := exB_call ex_b6 (by decide) h hm
theorem same_t {va vb : Value} {x : XP} {w : World} (ha : ExplIs w va x) (hb : ExplIs w vb x) :
    Calls Tryz.prog 15 #[va, vb] w fun e w' => e = .returned (.bool true) ∧ Below w.heap.size w w' := by
  have := same41_any va vb x x w ha hb
  rwa [show sameX x x = true by simp [sameX]] at this
theorem blocks_t {va vb : Value} {l : List BK} {w : World} (ha : BlksIs w va l) (hb : BlksIs w vb l) :
    Calls Tryz.prog 20 #[va, vb] w fun e w' => e = .returned (.bool true) ∧ Below w.heap.size w w' := by
  have := blocks41_any va vb l l w ha hb
  rwa [decide_eq_true rfl] at this
theorem ints_t {va vb : Value} {l : List Int} {w : World} (ha : Ints w va l) (hb : Ints w vb l) :
    Calls Tryz.prog 18 #[va, vb] w fun e w' => e = .returned (.bool true) ∧ Below w.heap.size w w' := by
  have := ints17_any va vb l l w ha hb
  rwa [decide_eq_true rfl] at this
theorem exT_call {v vx : Value} {w : World} (h : ProgIs w v exP) (hx : ExplIs w vx exX) :
    Calls Tryz.prog 13 #[v, vx] w fun e w' => e = .returned (.string ⟨#[35, 49, 32, 98, 121, 32, 48, 32, 108, 101, 118, 101, 108, 32, 49, 10, 35, 51, 32, 98, 121, 32, 49, 32, 108, 101, 118, 101, 108, 32, 50, 10, 35, 53, 32, 98, 121, 32, 50, 32, 108, 101, 118, 101, 108, 32, 51, 10]⟩) ∧ Below w.heap.size w w' := by
  have := text_any v vx exP exX w h hx (fun i => ?_) (fun y hy => ?_) (fun a ha => absurd ha List.not_mem_nil) (by decide) (by decide)
  · rw [ex_text] at this
    exact this
  · unfold ixS
    rw [List.getD_eq_getElem?_getD]
    cases e : exP.names[i]? with
    | none => decide
    | some x => rw [List.eq_of_mem_replicate (List.mem_of_getElem? e)]; decide
  · simp only [exX, List.mem_cons, List.not_mem_nil, or_false] at hy
    rcases hy with rfl | rfl | rfl <;> exact ⟨.small (by decide), .small (by decide), .small (by decide)⟩
theorem Blk.whysL {w : World} {b : Nat} {l : List WY} (h : Blk w b (l.flatMap cellsY) 49) (hs : ∀ y ∈ l, YI y) (hl : l.length ≤ 1000) : WhysIs w (.slice (some ⟨b, 0, none⟩) l.length l.length) l := by
  refine ⟨⟨_, l.length, rfl, Nat.le_refl _, by unfold maxLen; omega, by omega, fun _ => ⟨b, 0, rfl, h.lt, fun i hi j hj => ?_⟩⟩, hs⟩
  rw [h.cell, Nat.zero_add, flatY l i j hi hj]
  rcases (show j = 0 ∨ j = 1 ∨ j = 2 by omega) with rfl | rfl | rfl <;> rfl
theorem Blk.blksL {w : World} {b : Nat} {l : List BK} (h : Blk w b (l.flatMap cellsK) 71) (hs : ∀ y ∈ l, BI y) (hl : l.length ≤ 1000) : BlksIs w (.slice (some ⟨b, 0, none⟩) l.length l.length) l := by
  refine ⟨⟨_, l.length, rfl, Nat.le_refl _, by unfold maxLen; omega, by omega, fun _ => ⟨b, 0, rfl, h.lt, fun i hi j hj => ?_⟩⟩, hs⟩
  rw [h.cell, Nat.zero_add, flatK l i j hi hj]
  rcases (show j = 0 ∨ j = 1 ∨ j = 2 by omega) with rfl | rfl | rfl <;> rfl
theorem blk1 (w : World) {y1 y2 y3 : Int} (h : BI ⟨y1, y2, y3⟩) : BlksIs (w.alloc (.cells #[.int .i64 y1, .int .u8 y2, .int .i64 y3] 71)) (.slice (some ⟨w.heap.size, 0, none⟩) 1 1) [⟨y1, y2, y3⟩] :=
  Blk.blksL (l := [⟨y1, y2, y3⟩]) (Blk.new w [.int .i64 y1, .int .u8 y2, .int .i64 y3] 71) (fun y hy => by rw [List.mem_singleton.1 hy]; exact h) (by simp)
theorem bi1 : BI ⟨2, 3, 5⟩ := by unfold BI InI; decide
theorem bi2 : BI ⟨4, 1, -1⟩ := by unfold BI InI; decide
theorem ey_lit (w : World) : ExplIs (w.alloc (.cells #[.int .i64 1, .int .i64 2] 3)) (.agg #[.slice none 0 0, .slice (some ⟨w.heap.size, 0, none⟩) 2 2]) eyX :=
  ⟨_, _, rfl, nil_whys _, Blk.intsL (l := [1, 2]) (Blk.new w [.int .i64 1, .int .i64 2] 3) (by decide)⟩
theorem ex_lit {w : World} {b : Nat} (h : Blk w b [.int .i64 1, .int .i64 0, .int .i64 1, .int .i64 3, .int .i64 1, .int .i64 2, .int .i64 5, .int .i64 2, .int .i64 3] 49) : ExplIs w (.agg #[.slice (some ⟨b, 0, none⟩) 3 3, .slice none 0 0]) exX :=
  ⟨_, _, rfl, Blk.whysL (l := exX.whys) h (fun y hy => by
    simp only [exX, List.mem_cons, List.not_mem_nil, or_false] at hy
    rcases hy with rfl | rfl | rfl <;> (unfold YI InI; decide)) (by decide), nil_ints _⟩
end Go.Proofs.YtgakoainjgjimaaGreatDoor
