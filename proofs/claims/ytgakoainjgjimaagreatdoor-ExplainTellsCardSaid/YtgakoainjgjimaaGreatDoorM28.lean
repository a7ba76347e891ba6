/- My texts Et41, FrameB, merged. -/
import Derived.Test.YtgakoainjgjimaaGreatDoorM19
import Derived.Test.YtgakoainjgjimaaGreatDoorM27
import Derived.Test.YtgakoainjgjimaaGreatDoorM13
import Derived.Test.YtgakoainjgjimaaGreatDoorM11
import Derived.Test.YtgakoainjgjimaaGreatDoorM10
import Derived.Test.YtgakoainjgjimaaGreatDoorM09
import Derived.Test.YtgakoainjgjimaaGreatDoorM08
import Derived.Test.YtgakoainjgjimaaGreatDoorM07
import Derived.Test.YtgakoainjgjimaaGreatDoorM20
import Derived.Test.YtgakoainjgjimaaGreatDoorM05
import Derived.Test.YtgakoainjgjimaaGreatDoorM04
import Derived.Test.YtgakoainjgjimaaGreatDoorM03
import Derived.Test.YtgakoainjgjimaaGreatDoorM00
import Derived.Test.YtgakoainjgjimaaGreatDoorProg
import Derived.WalkKit
import Derived.Lib.Hide
import Derived.Deep.QuietTactic
import Derived.BigQuiet
import Derived.WalkSpells
import Derived.Lib.SliceRun
import Derived.MapKept
import Derived.Maps.OwnSet
import Derived.Maps.OwnOps
import Derived.Test.YtgakoainjgjimaaGreatDoorM02
import Derived.Test.YtgakoainjgjimaaGreatDoorM01
import Derived.Deep.AppendLies
import Derived.Lib.Bytealg
import Derived.Deep.DeepCutAuto
import Derived.Laws.EntriesVeiled
import Derived.Deep.RegionWith
import Derived.Deep.OwnRows
import Derived.Test.YtgakoainjgjimaaGreatDoorM06
import Derived.RangeFuncNested
import Derived.RangeFuncBound
import Derived.RangeFuncCalls
import Derived.RangeFuncLeaves
import Derived.OwnWalkIn
import Derived.TacticsInMore
import Derived.LoopNIn
import Derived.LoopIn
import Derived.Stop.RegionWithIn
import Derived.Shelf.Abstract
import Derived.Deep.LoopGhost
import Derived.Deep.DrawnRows
import Derived.Shelf.Sort.Plain
import Derived.Shelf.Slices.CompactI
import Derived.Shelf.Slices.In.SortNone
import Derived.Shelf.Strconv.Itoa3
import Derived.Shelf.Strings.BuilderK
import Derived.Shelf.Slices.SearchI
import Derived.Shelf.Slices.Empties
import Derived.Deep.AppendSrc
import Derived.Lib.SlicesCompact
import Derived.Sort.OwnSortedInts
import Derived.Test.YtgakoainjgjimaaGreatDoorM12
import Derived.Sort.QuietThIn
import Derived.Maps.RangeWalk
import Derived.RangeFuncBox
import Derived.Maps.OwnIn
import Derived.Lib.RowBridge
import Derived.Test.YtgakoainjgjimaaGreatDoorM17
import Derived.Test.YtgakoainjgjimaaGreatDoorM14
import Derived.Test.YtgakoainjgjimaaGreatDoorM16
import Derived.Test.YtgakoainjgjimaaGreatDoorM15
import Derived.Lib.ItoaNum
import Derived.Test.YtgakoainjgjimaaGreatDoorM18
import Derived.Deep.DeepMust
import Derived.ProofKit
import Derived.OpenShut
import Derived.ChangeArms
import Derived.SizedLaws
import Derived.Deep.RegionHeld3
import Derived.Laws.ResultCell
import Derived.Laws.Rows
import Derived.Deep.RegionLaw
import Derived.Sort.CutIn
import Derived.Test.YtgakoainjgjimaaGreatDoorM23
import Derived.Test.YtgakoainjgjimaaGreatDoorM22
import Derived.Test.YtgakoainjgjimaaGreatDoorM21
import Derived.Laws.IdiomStrings
import Derived.Test.YtgakoainjgjimaaGreatDoorM25
import Derived.Test.YtgakoainjgjimaaGreatDoorM24
import Derived.Test.YtgakoainjgjimaaGreatDoorM26
import Derived.Lib.ItoaLen
import Derived.Lib.AppendIntMem

namespace Go.Proofs.YtgakoainjgjimaaGreatDoor
open Go.RowKit
structure EtS (w : World) (p : GP) (vn vs vr vmn vset xw xr : Value) (m : List Int) (x : XP) (W : World) : Prop where
  pbx : Blk W w.heap.size [.int .i64 p.n, vn, vs, vr, vmn] 27
  xbx : Blk W (w.heap.size + 1) [xw, xr] 30
  prog : ProgIs W (.agg #[.int .i64 p.n, vn, vs, vr, vmn]) p
  set : Ints W vset m
  xis : ExplIs W (.agg #[xw, xr]) x
  pow : Pow10 W
  below : Below w.heap.size w W
theorem EtS.on {w : World} {p : GP} {vn vs vr vmn vset xw xr : Value} {m : List Int} {x : XP} {W W' : World} (h : EtS w p vn vs vr vmn vset xw xr m x W) (hb : Below W.heap.size W W') : EtS w p vn vs vr vmn vset xw xr m x W' :=
  ⟨h.pbx.below hb, h.xbx.below hb, h.prog.below hb, h.set.below hb, h.xis.below hb, h.pow.below hb, bon h.below hb⟩
def EtR1 (x : XP) (a : Int) (W0 : World) (s i : Value) (W : World) : Prop :=
  ∃ (k : Nat) (z : Int), k ≤ x.whys.length ∧ i = .int .i64 k ∧ s = .int .i64 z ∧ z = (if a ∈ atomsY (x.whys.take k) then 1 else 0) ∧ Below W0.heap.size W0 W
def EtR2 (m : List Int) (a s0 : Int) (W0 : World) (s i : Value) (W : World) : Prop :=
  ∃ (k : Nat) (z : Int), k ≤ m.length ∧ i = .int .i64 k ∧ s = .int .i64 z ∧ z = (if a ∈ m.take k then 2 else s0) ∧ W = W0
theorem et1_next {x : XP} {a : Int} {k : Nat} (hk : k < x.whys.length) {y : WY} (hy : ixY x.whys k = y) : (a ∈ atomsY (x.whys.take (k + 1))) ↔ (a ∈ atomsY (x.whys.take k) ∨ y.atom = a) := by
  rw [takeY_succ hk, hy]
  unfold atomsY
  rw [List.map_append, List.mem_append]
  simp [eq_comm]
theorem et2_next {m : List Int} {a : Int} {k : Nat} (hk : k < m.length) : (a ∈ m.take (k + 1)) ↔ (a ∈ m.take k ∨ a = ix m k) := by
  rw [List.take_add_one, List.mem_append]
  simp [ix, List.getD, hk]
theorem et_err {p : GP} {m : List Int} {x : XP} {a E S B : Int} {L : List WY} {R : List Int} {c : Bool} {BL : List BK} (hE : xE p m = E) (hX : explO p m = ⟨L, R⟩) (hc : (decide (E = 0) && chkX p m x) = c) (hS : supE p m x a = S) (hB : blksX p m a = (BL, B)) (h0 : ¬ E = 0) :
    L = [] ∧ R = [] ∧ c = false ∧ E = S ∧ E = B ∧ BL = [] := by
  have h1 : ¬ xE p m = 0 := by rw [hE]; exact h0
  unfold explO at hX
  unfold supE at hS
  unfold blksX at hB
  rw [if_neg h1] at hX hS
  rw [if_pos h1] at hB
  rw [decide_eq_false h0] at hc
  simp only [XP.mk.injEq] at hX
  simp only [Prod.mk.injEq] at hB
  exact ⟨hX.1.symm, hX.2.symm, hc.symm, hE.symm.trans hS, hE.symm.trans hB.2, hB.1.symm⟩
theorem same41_call {va vb : Value} {x y : XP} {b : Bool} {w : World} (hb : sameX x y = b) (ha : ExplIs w va x) (hy : ExplIs w vb y) :
    Calls Tryz.prog 15 #[va, vb] w fun e w' => e = .returned (.bool b) ∧ Below w.heap.size w w' := by
  have := same41_any va vb x y w ha hy
  rwa [hb] at this
theorem nil_expl (w : World) : ExplIs w (.agg #[.slice none 0 0, .slice none 0 0]) ⟨[], []⟩ :=
  ⟨_, _, rfl, (MineY.nil w.heap.size w).whys (by simp), nil_ints w⟩
theorem et_ite {P Q : Prop} [Decidable P] [Decidable Q] {u v : Int} (h : P ↔ Q) : (if P then u else v) = if Q then u else v := ite_congr (propext h) (fun _ => rfl) (fun _ => rfl)
theorem blk41_same {va vb : Value} {x : List BK} {w : World} (ha : BlksIs w va x) (hy : BlksIs w vb x) :
    Calls Tryz.prog 20 #[va, vb] w fun e w' => e = .returned (.bool true) ∧ Below w.heap.size w w' := by
  have := blocks41_any va vb x x w ha hy
  rwa [decide_eq_true rfl] at this
theorem int41_same {va vb : Value} {x : List Int} {w : World} (ha : Ints w va x) (hy : Ints w vb x) :
    Calls Tryz.prog 18 #[va, vb] w fun e w' => e = .returned (.bool true) ∧ Below w.heap.size w w' := by
  have := ints17_any va vb x x w ha hy
  rwa [decide_eq_true rfl] at this
theorem et_blk {p : GP} {m : List Int} {a B : Int} {BL : List BK} (hE : xE p m = 0) (hB : blksX p m a = (BL, B)) :
    ((a < 1 ∨ p.n < a ∨ a ∈ m) → B = 2 ∧ BL = []) ∧ (¬ (a < 1 ∨ p.n < a ∨ a ∈ m) → B = 0 ∧ blksTo p m a p.rules.length = BL) := by
  unfold blksX at hB
  rw [if_neg (by simp [hE])] at hB
  split at hB
  · next h =>
    simp only [Prod.mk.injEq] at hB
    exact ⟨fun _ => ⟨hB.2.symm, hB.1.symm⟩, fun h' => absurd h h'⟩
  · next h =>
    simp only [Prod.mk.injEq] at hB
    exact ⟨fun h' => absurd h' h, fun _ => ⟨hB.2.symm, hB.1⟩⟩
set_option maxHeartbeats 8000000 in
set_option maxRecDepth 100000 in
theorem et_walk (v vset vx : Value) (p : GP) (m : List Int) (x : XP) (a : Int) (w : World) (h : ProgIs w v p) (hm : Ints w vset m) (hx : ExplIs w vx x) (ha : InI a) (hP : Pow10 w) :
    Calls Tryz.prog 3 #[v, vset, vx, .int .i64 a] w fun e w' => e = .returned (.bool true) ∧ Below w.heap.size w w' := by
  have h0 := h
  have hm0 := hm
  have hx0 := hx
  obtain ⟨vn, vs, vr, vmn, rfl, -⟩ := h
  obtain ⟨am, cm, rfl, -, -, -, hcM⟩ := hm.form
  obtain ⟨xw, xr, rfl, hwh, hrs⟩ := hx
  obtain ⟨aw, cw, rfl, -, -, -, hcW⟩ := hwh.form
  obtain ⟨ar, cr, rfl, -⟩ := id hrs.form
  have hal := bal (bal (Below.refl w.heap.size w) (.cells #[.int .i64 p.n, vn, vs, vr, vmn] 27)) (.cells #[.slice aw x.whys.length cw, .slice ar x.rest.length cr] 30)
  have hst : EtS w p vn vs vr vmn (.slice am m.length cm) (.slice aw x.whys.length cw) (.slice ar x.rest.length cr) m x ((w.alloc (.cells #[.int .i64 p.n, vn, vs, vr, vmn] 27)).alloc (.cells #[.slice aw x.whys.length cw, .slice ar x.rest.length cr] 30)) :=
    ⟨(Blk.new w [.int .i64 p.n, vn, vs, vr, vmn] _).alloc _, Blk.new2 w _ [.slice aw x.whys.length cw, .slice ar x.rest.length cr] _, h0.below hal, hm0.below hal, hx0.below hal, hP.below hal, hal⟩
  have HS0 := Lib.hid hst
  have kp0 := hst.pbx.cell
  have kx0 := hst.xbx.cell
  have HA := Lib.hid ha
  have HCM := Lib.hid hcM
  have HCW := Lib.hid hcW
  clear h0 hm hm0 hx0 hwh hrs hal hst ha hP hcM hcW
  go_enter Tryz.func3, Tryz.ntmps3
  go_upto_region 1 with fail
  generalize (w.alloc (.cells #[.int .i64 p.n, vn, vs, vr, vmn] 27)).alloc (.cells #[.slice aw x.whys.length cw, .slice ar x.rest.length cr] 30) = W0 at *
  cases hfw : few17B p with
  | false =>
    have HFW := Lib.hid hfw
    clear hfw
    go_wp2_with (first | (go_at_call 6; (with_reducible refine (few17_any _ p _ HS0.out.prog).mono ?_); rintro e w1 ⟨h1, hb1⟩; rw [HFW.out] at h1; subst h1; have HS1 := Lib.hid (HS0.out.on hb1); have kp1 := HS1.out.pbx.cell; have kx1 := HS1.out.xbx.cell; clear hb1) | (go_at_call 7; (with_reducible refine (awake41_any _).mono ?_); rintro e w9 ⟨rfl, hb9⟩; have HB9 := Lib.hid ((HS1.out.on hb9).below); clear hb9))
    go_ret
    exact ⟨rfl, HB9.out⟩
  | true =>
    have HFW := Lib.hid hfw
    have HN := Lib.hid (few17_names hfw)
    have HRL := Lib.hid (few17_rl hfw)
    clear hfw
    by_cases g1 : m.length ≤ 14
    case neg =>
      go_wp2_with (first | (go_at_call 6; (with_reducible refine (few17_any _ p _ HS0.out.prog).mono ?_); rintro e w1 ⟨h1, hb1⟩; rw [HFW.out] at h1; subst h1; have HS1 := Lib.hid (HS0.out.on hb1); have kp1 := HS1.out.pbx.cell; have kx1 := HS1.out.xbx.cell; clear hb1) | (go_at_call 7; (with_reducible refine (awake41_any _).mono ?_); rintro e w9 ⟨rfl, hb9⟩; have HB9 := Lib.hid ((HS1.out.on hb9).below); clear hb9))
      go_ret
      exact ⟨rfl, HB9.out⟩
    by_cases g2 : x.whys.length ≤ 14
    case neg =>
      go_wp2_with (first | (go_at_call 6; (with_reducible refine (few17_any _ p _ HS0.out.prog).mono ?_); rintro e w1 ⟨h1, hb1⟩; rw [HFW.out] at h1; subst h1; have HS1 := Lib.hid (HS0.out.on hb1); have kp1 := HS1.out.pbx.cell; have kx1 := HS1.out.xbx.cell; clear hb1) | (go_at_call 7; (with_reducible refine (awake41_any _).mono ?_); rintro e w9 ⟨rfl, hb9⟩; have HB9 := Lib.hid ((HS1.out.on hb9).below); clear hb9))
      go_ret
      exact ⟨rfl, HB9.out⟩
    by_cases g3 : x.rest.length ≤ 14
    case neg =>
      go_wp2_with (first | (go_at_call 6; (with_reducible refine (few17_any _ p _ HS0.out.prog).mono ?_); rintro e w1 ⟨h1, hb1⟩; rw [HFW.out] at h1; subst h1; have HS1 := Lib.hid (HS0.out.on hb1); have kp1 := HS1.out.pbx.cell; have kx1 := HS1.out.xbx.cell; clear hb1) | (go_at_call 7; (with_reducible refine (awake41_any _).mono ?_); rintro e w9 ⟨rfl, hb9⟩; have HB9 := Lib.hid ((HS1.out.on hb9).below); clear hb9))
      go_ret
      exact ⟨rfl, HB9.out⟩
    obtain ⟨E, hE⟩ : ∃ E, xE p m = E := ⟨_, rfl⟩
    obtain ⟨⟨L, R⟩, hX⟩ : ∃ X, explO p m = X := ⟨_, rfl⟩
    obtain ⟨c, hc⟩ : ∃ c, (decide (E = 0) && chkX p m x) = c := ⟨_, rfl⟩
    obtain ⟨S, hS⟩ : ∃ S, supE p m x a = S := ⟨_, rfl⟩
    obtain ⟨⟨BL, B⟩, hB⟩ : ∃ Q, blksX p m a = Q := ⟨_, rfl⟩
    obtain ⟨T, hT⟩ : ∃ T : ByteArray, ⟨(textX p.names x).toArray⟩ = T := ⟨_, rfl⟩
    have HE := Lib.hid hE
    have HX := Lib.hid hX
    have HC := Lib.hid hc
    have HS := Lib.hid hS
    have HB := Lib.hid hB
    have HT := Lib.hid hT
    have HM1 : Hid (m.length ≤ 1000) := Lib.hid (by omega)
    have HM2 : Hid (m.length ≤ 100) := Lib.hid (by omega)
    have HW1 : Hid (x.whys.length ≤ 500) := Lib.hid (by omega)
    have HW2 : Hid (x.whys.length ≤ 100) := Lib.hid (by omega)
    have HR2 : Hid (x.rest.length ≤ 100) := Lib.hid (by omega)
    have HRL1 : Hid (p.rules.length ≤ 1000) := Lib.hid (by have := HRL.out; omega)
    clear hE hX hc hS hB hT
    go_upto_region 5 with (first
      | (go_at_call 6; (with_reducible refine (few17_any _ p _ HS0.out.prog).mono ?_); rintro e w1 ⟨h1, hb1⟩; rw [HFW.out] at h1; subst h1; have HS1 := Lib.hid (HS0.out.on hb1); have kp1 := HS1.out.pbx.cell; have kx1 := HS1.out.xbx.cell; clear hb1)
      | (go_at_call 8; (with_reducible refine (errt_any HE.out HS1.out.prog HS1.out.set).mono ?_); rintro e w2 ⟨rfl, hb2⟩; have HS2 := Lib.hid (HS1.out.on hb2); have kp2 := HS2.out.pbx.cell; have kx2 := HS2.out.xbx.cell; clear hb2)
      | (go_at_call 9; (with_reducible refine (explt_any HE.out HX.out HM1.out HS2.out.prog HS2.out.set).mono ?_); rintro e w3 ⟨a1, c1, a2, c2, rfl, hq, hb3⟩; have hal3 := bal (Below.refl w3.heap.size w3) (.cells #[.slice a1 L.length c1, .slice a2 R.length c2] 30); have hb3 := bon hb3 hal3; have HG := Lib.hid (Blk.new w3 [.slice a1 L.length c1, .slice a2 R.length c2] 30); have HGI := Lib.hid (hq.below hal3); have HS3 := Lib.hid (HS2.out.on hb3); have kp3 := HS3.out.pbx.cell; have kx3 := HS3.out.xbx.cell; clear hq hal3 hb3))
    generalize hw4 : w3.alloc (.cells #[.slice a1 L.length c1, .slice a2 R.length c2] 30) = w4 at *
    clear hw4 kp0 kp1 kp2 kx0 kx1 kx2
    generalize w3.heap.size = gx at *
    have hzg := HG.out.lt
    go_upto_region 8 with (first
      | (go_at_call 10; (with_reducible refine (checkt_any HE.out HC.out HS3.out.prog HS3.out.set HS3.out.xis HW1.out).mono ?_); rintro e w5 ⟨rfl, hb5⟩; have HS5 := Lib.hid (HS3.out.on hb5); have kp5 := HS5.out.pbx.cell; have kx5 := HS5.out.xbx.cell; have HG5 := Lib.hid (HG.out.below hb5); have HGI5 := Lib.hid (HGI.out.below hb5); clear hb5)
      | (go_at_call 11; (with_reducible refine (supt_any HS.out HS5.out.prog HS5.out.set HS5.out.xis HA.out HW1.out).mono ?_); rintro e w6 ⟨a3, c3, out, rfl, hq, ho, hb6⟩; have HS6 := Lib.hid (HS5.out.on hb6); have kp6 := HS6.out.pbx.cell; have kx6 := HS6.out.xbx.cell; have HG6 := Lib.hid (HG5.out.below hb6); have HGI6 := Lib.hid (HGI5.out.below hb6); have HO := Lib.hid ho; have HOI := Lib.hid hq; clear hb6 ho hq)
      | (go_at_call 12; (with_reducible refine (blkt_any HB.out HRL1.out HS6.out.prog HS6.out.set).mono ?_); rintro e w7 ⟨a4, c4, rfl, hq, hb7⟩; have HS7 := Lib.hid (HS6.out.on hb7); have kp7 := HS7.out.pbx.cell; have kx7 := HS7.out.xbx.cell; have HG7 := Lib.hid (HG6.out.below hb7); have HGI7 := Lib.hid (HGI6.out.below hb7); have HOI7 := Lib.hid (HOI.out.below hb7); have HBI := Lib.hid hq; clear hb7 hq))
    have zp := HS7.out.pbx.lt
    have zx := HS7.out.xbx.lt
    have ep : ∀ e : Ext w7, ∀ o, e.world.cell? ⟨w.heap.size, o, none⟩ = _ := fun e o => (bcell e.below _ o zp).trans (HS7.out.pbx.cell o)
    have ex : ∀ e : Ext w7, ∀ o, e.world.cell? ⟨w.heap.size + 1, o, none⟩ = _ := fun e o => (bcell e.below _ o zx).trans (HS7.out.xbx.cell o)
    have HQ1 : Hid (∀ e : Ext w7, Calls Tryz.prog 13 #[.agg #[.int .i64 p.n, vn, vs, vr, vmn], .agg #[.slice aw x.whys.length cw, .slice ar x.rest.length cr]] e.world fun en w' => en = .returned (.string T) ∧ Below e.world.heap.size e.world w') := Lib.hid fun e => textt_any HT.out HN.out (HS7.out.on e.below).pow (HS7.out.on e.below).prog (HS7.out.on e.below).xis HW2.out HR2.out
    have HQ2 : Hid (∀ e : Ext w7, Calls Tryz.prog 14 #[.agg #[.int .i64 p.n, vn, vs, vr, vmn], .agg #[.slice aw x.whys.length cw, .slice ar x.rest.length cr]] e.world fun en w' => en = .returned (.string T) ∧ Below e.world.heap.size e.world w') := Lib.hid fun e => rtextt_any HT.out HN.out (HS7.out.on e.below).pow (HS7.out.on e.below).prog (HS7.out.on e.below).xis HW2.out HR2.out
    have hee : (E != E) = false := by simp
    clear kp3 kp5 kp6 kp7 kx3 kx5 kx6 kx7
    refine wp_region_ext (by kernel_rfl) (by kernel_rfl) ?_
    repeat (go_big_quiet_step ((first | (go_at_call 13; with_reducible exact Calls.ext_of (HQ1.out _)) | (go_at_call 14; with_reducible exact Calls.ext_of (HQ2.out _)))))
    refine wpQuiet_nil ?_
    intro w9 hw'
    obtain ⟨e9, he9⟩ := hw'
    have hb9 := e9.below
    rw [← he9] at hb9
    clear he9 e9
    try dsimp only
    have HS8 := Lib.hid (HS7.out.on hb9)
    have HG8 := Lib.hid (HG7.out.below hb9)
    have HGI8 := Lib.hid (HGI7.out.below hb9)
    have HOI8 := Lib.hid (HOI7.out.below hb9)
    have HBI8 := Lib.hid (HBI.out.below hb9)
    have kp8 := HS8.out.pbx.cell
    have kx8 := HS8.out.xbx.cell
    have kg8 := HG8.out.cell
    have zp8 := HS8.out.pbx.lt
    have zx8 := HS8.out.xbx.lt
    have zg8 := HG8.out.lt
    clear hb9 ep ex HQ1 HQ2 hee zp zx hzg
    by_cases hE0 : E = 0
    case neg =>
      obtain ⟨hL, hR, hc, hS, hB1, hB2⟩ := et_err HE.out HX.out HC.out HS.out HB.out hE0
      have ho := HO.out.1 (by rw [← hS]; exact hE0)
      subst hL hR hc hS hB1 hB2
      have hol : (out.length : Int) = 0 := by omega
      have hen : (E != 0) = true := by simp [hE0]
      have hss : (E == E) = true := by simp
      have HSM : Hid (sameX ⟨[], []⟩ ⟨[], []⟩ = true) := Lib.hid rfl
      have HGZ : Hid (ExplIs w9 (.agg #[.slice a1 0 c1, .slice a2 0 c2]) ⟨[], []⟩) := Lib.hid HGI8.out
      have kg9 : ∀ o, w9.cell? ⟨gx, o, none⟩ = [Value.slice a1 0 c1, .slice a2 0 c2][o]? := kg8
      clear ho hE0 kg8
      go_wp2_with (first
        | ((go_at_call 7; (with_reducible refine (awake41_any _).mono ?_); rintro e w9 ⟨rfl, hb9⟩; have HB9 := Lib.hid ((HS10.out.on hb9).below); clear hb9))
        | (go_at_call 15; (with_reducible refine (same41_call HSM.out HGZ.out (nil_expl _)).mono ?_); rintro e w10 ⟨rfl, hb10⟩; have HS10 := Lib.hid (HS8.out.on hb10); have kp10 := HS10.out.pbx.cell; have kx10 := HS10.out.xbx.cell; clear hb10))
      go_ret
      exact ⟨rfl, HB9.out⟩
    subst hE0
    have HCK : Hid (chkX p m x = c) := Lib.hid (by simpa using HC.out)
    have HSM : Hid (sameX ⟨L, R⟩ ⟨L, R⟩ = true) := Lib.hid (by simp [sameX])
    have hcc : (c != c) = false := by simp
    have h00 : ((0 : Int) != 0) = false := by decide
    go_upto_region 13 with (go_at_call 16; (with_reducible refine (rexplt_any HE.out HX.out HM2.out HS8.out.prog HS8.out.set).mono ?_); rintro e w10 ⟨a5, c5, a6, c6, rfl, hq, hb10⟩; have hal10 := bal (Below.refl w10.heap.size w10) (.cells #[.slice a5 L.length c5, .slice a6 R.length c6] 30); have hb10 := bon hb10 hal10; have HY := Lib.hid (Blk.new w10 [.slice a5 L.length c5, .slice a6 R.length c6] 30); have HYI := Lib.hid (hq.below hal10); have HG10 := Lib.hid (HG8.out.below hb10); have HGI10 := Lib.hid (HGI8.out.below hb10); have HOI10 := Lib.hid (HOI8.out.below hb10); have HBI10 := Lib.hid (HBI8.out.below hb10); have HS10 := Lib.hid (HS8.out.on hb10); have kp10 := HS10.out.pbx.cell; have kx10 := HS10.out.xbx.cell; clear hq hal10 hb10)
    generalize hw11 : w10.alloc (.cells #[.slice a5 L.length c5, .slice a6 R.length c6] 30) = w11 at *
    clear hw11 kp8 kx8 kg8 zp8 zx8 zg8
    generalize w10.heap.size = yx at *
    have ky10 := HY.out.cell
    have kg10 := HG10.out.cell
    go_upto_region 16 with (first
      | (go_at_call 15; (with_reducible refine (same41_call HSM.out HGI10.out HYI.out).mono ?_); rintro e w12 ⟨rfl, hb12⟩; have HS12 := Lib.hid (HS10.out.on hb12); have kp12 := HS12.out.pbx.cell; have kx12 := HS12.out.xbx.cell; have HOI12 := Lib.hid (HOI10.out.below hb12); have HBI12 := Lib.hid (HBI10.out.below hb12); clear hb12)
      | (go_at_call 17; (with_reducible refine (rcheckt_any HE.out HCK.out HS12.out.prog HS12.out.set HS12.out.xis HW2.out HR2.out HM2.out).mono ?_); rintro e w13 ⟨rfl, hb13⟩; have HS13 := Lib.hid (HS12.out.on hb13); have kp13 := HS13.out.pbx.cell; have kx13 := HS13.out.xbx.cell; have HOI13 := Lib.hid (HOI12.out.below hb13); have HBI13 := Lib.hid (HBI12.out.below hb13); clear hb13))
    clear ky10 kg10 kp10 kp12 kx10 kx12
    go_wp2_with fail
    go_loopw [19, 141] (fun s i wx => EtR1 x a w13 s i wx) (fun _ i _ => x.whys.length - (intOf i).toNat)
    case atStart => exact ⟨0, 0, Nat.zero_le _, rfl, rfl, rfl, Below.refl _ _⟩
    case round =>
      obtain ⟨k, z, hk, rfl, rfl, hz, hb⟩ := hrel
      have HZ := Lib.hid hz
      have HB' := Lib.hid hb
      clear hz
      by_cases hlt : k < x.whys.length
      · obtain ⟨b, off, rfl, hbl, hc⟩ := HCW.out (by omega)
        obtain ⟨k0, k1, k2⟩ := hc k hlt
        have kk := bcell (bon HS13.out.below hb) b
        obtain ⟨y, hy⟩ : ∃ y, ixY x.whys k = y := ⟨_, rfl⟩
        have HNX := Lib.hid (et1_next (a := a) hlt hy)
        rw [hy] at k0 k1 k2
        have q0 := (kk _ hbl).trans k0
        have q1 := (kk _ hbl).trans k1
        have q2 := (kk _ hbl).trans k2
        clear kk k0 k1 k2 hc hb hy kp13 kx13
        by_cases e : y.atom = a
        · have he : (y.atom == a) = true := by simp [e]
          have HE1 := Lib.hid e
          clear e
          go_wp2_with fail
          first
            | (go_roundw
               case rel => (exact ⟨k + 1, _, hlt, by go_num, rfl, by rw [if_pos (HNX.out.2 (.inr HE1.out))], bon HB'.out (bal (Below.refl _ _) _)⟩)
               case measure => (simp [intOf]; omega))
            | (refine ⟨?_, ?_⟩
               · (exact ⟨k + 1, _, hlt, by go_num, rfl, by rw [if_pos (HNX.out.2 (.inr HE1.out))], bon HB'.out (bal (Below.refl _ _) _)⟩)
               · (simp [intOf]; omega))
        · have he : (y.atom == a) = false := by simp [e]
          have HE1 := Lib.hid e
          clear e
          go_wp2_with fail
          first
            | (go_roundw
               case rel => (exact ⟨k + 1, z, hlt, by go_num, rfl, HZ.out.trans (et_ite (HNX.out.trans (or_iff_left HE1.out))).symm, bon HB'.out (bal (Below.refl _ _) _)⟩)
               case measure => (simp [intOf]; omega))
            | (refine ⟨?_, ?_⟩
               · (exact ⟨k + 1, z, hlt, by go_num, rfl, HZ.out.trans (et_ite (HNX.out.trans (or_iff_left HE1.out))).symm, bon HB'.out (bal (Below.refl _ _) _)⟩)
               · (simp [intOf]; omega))
      · obtain rfl : k = x.whys.length := by omega
        have hz := HZ.out
        rw [List.take_length] at hz
        have HS14 := Lib.hid (HS13.out.on hb)
        have HOI14 := Lib.hid (HOI13.out.below hb)
        have HBI14 := Lib.hid (HBI13.out.below hb)
        have kp14 := HS14.out.pbx.cell
        have kx14 := HS14.out.xbx.cell
        clear hb HZ HB' kp13 kx13
        cases c with
        | false =>
          obtain rfl : S = 2 := by have := HS.out; unfold supE at this; rw [if_pos HE.out, HCK.out, if_neg Bool.false_ne_true] at this; exact this.symm
          have ho := HO.out.1 (by decide)
          have hol : (out.length : Int) = 0 := by omega
          have hz2 : z ≠ 2 := by rw [hz]; split <;> decide
          have hz3 : (z == 2) = false := by simp [hz2]
          have HZ2 := Lib.hid hz2
          have HS17 := HS14
          have HBI17 := HBI14
          clear hz hz2 ho
          go_upto_region 26 with fail
          generalize wr = wq at *
          go_wp2_with fail
          go_loopw [19, 196] (fun s i wx => EtR2 m a z wq s i wx) (fun _ i _ => m.length - (intOf i).toNat)
          case atStart => exact ⟨0, z, Nat.zero_le _, rfl, rfl, rfl, rfl⟩
          case round =>
            obtain ⟨k, z', hk, rfl, rfl, hz, rfl⟩ := hrel
            have HZ := Lib.hid hz
            clear hz
            by_cases hlt : k < m.length
            · obtain ⟨b, off, rfl, hbl, hc⟩ := HCM.out (by omega)
              have q0 := (bcell HS17.out.below _ _ hbl).trans (hc k hlt)
              have HNX := Lib.hid (et2_next (a := a) hlt)
              clear hc
              by_cases e : a = ix m k
              · have he : (a == ix m k) = true := by simp [e]
                have HE1 := Lib.hid e
                clear e
                go_wp2_with fail
                first
                  | (go_roundw
                     case rel => (exact ⟨k + 1, _, hlt, by go_num, rfl, by rw [if_pos (HNX.out.2 (.inr HE1.out))], rfl⟩)
                     case measure => (simp [intOf]; omega))
                  | (refine ⟨?_, ?_⟩
                     · (exact ⟨k + 1, _, hlt, by go_num, rfl, by rw [if_pos (HNX.out.2 (.inr HE1.out))], rfl⟩)
                     · (simp [intOf]; omega))
              · have he : (a == ix m k) = false := by simp [e]
                have HE1 := Lib.hid e
                clear e
                go_wp2_with fail
                first
                  | (go_roundw
                     case rel => (exact ⟨k + 1, z', hlt, by go_num, rfl, HZ.out.trans (et_ite (HNX.out.trans (or_iff_left HE1.out))).symm, rfl⟩)
                     case measure => (simp [intOf]; omega))
                  | (refine ⟨?_, ?_⟩
                     · (exact ⟨k + 1, z', hlt, by go_num, rfl, HZ.out.trans (et_ite (HNX.out.trans (or_iff_left HE1.out))).symm, rfl⟩)
                     · (simp [intOf]; omega))
            · obtain rfl : k = m.length := by omega
              have hz := HZ.out
              rw [List.take_length] at hz
              have HBK := Lib.hid (et_blk HE.out HB.out)
              clear HZ
              by_cases hm : a ∈ m
              · rw [if_pos hm] at hz
                subst hz
                obtain ⟨rfl, hBL⟩ := HBK.out.1 (.inr (.inr hm))
                have hbl : (BL.length : Int) = 0 := by rw [hBL]; rfl
                clear hBL hm
                go_wp2_with ((go_at_call 7; (with_reducible refine (awake41_any _).mono ?_); rintro e w9 ⟨rfl, hb9⟩; have HB9 := Lib.hid ((HS17.out.on hb9).below); clear hb9))
                go_ret
                exact ⟨rfl, HB9.out⟩
              · rw [if_neg hm] at hz
                subst hz
                by_cases h1 : a < 1
                · obtain ⟨rfl, hBL⟩ := HBK.out.1 (.inl h1)
                  have hbl : (BL.length : Int) = 0 := by rw [hBL]; rfl
                  clear hBL hm
                  go_wp2_with ((go_at_call 7; (with_reducible refine (awake41_any _).mono ?_); rintro e w9 ⟨rfl, hb9⟩; have HB9 := Lib.hid ((HS17.out.on hb9).below); clear hb9))
                  go_ret
                  exact ⟨rfl, HB9.out⟩
                · by_cases h2 : p.n < a
                  · obtain ⟨rfl, hBL⟩ := HBK.out.1 (.inr (.inl h2))
                    have hbl : (BL.length : Int) = 0 := by rw [hBL]; rfl
                    clear hBL hm
                    go_wp2_with ((go_at_call 7; (with_reducible refine (awake41_any _).mono ?_); rintro e w9 ⟨rfl, hb9⟩; have HB9 := Lib.hid ((HS17.out.on hb9).below); clear hb9))
                    go_ret
                    exact ⟨rfl, HB9.out⟩
                  · obtain ⟨rfl, hBL⟩ := HBK.out.2 (fun h => h.elim h1 (fun h => h.elim h2 hm))
                    have HBL := Lib.hid hBL
                    obtain ⟨hv, hset, hmod⟩ := xE_ok HE.out
                    have HV := Lib.hid hv
                    have HMO := Lib.hid hmod
                    clear hBL hm hv hset hmod
                    go_wp2_with (first
                      | ((go_at_call 7; (with_reducible refine (awake41_any _).mono ?_); rintro e w9 ⟨rfl, hb9⟩; have HB9 := Lib.hid ((HS19.out.on hb9).below); clear hb9))
                      | (go_at_call 20; (with_reducible refine (blk41_same HBI18.out HBR.out).mono ?_); rintro e w19 ⟨rfl, hb19⟩; have HS19 := Lib.hid (HS18.out.on hb19); clear hb19)
                      | (go_at_call 21; (with_reducible refine (rblkt_any HBL.out HRL1.out HS17.out.prog HS17.out.set HV.out HMO.out).mono ?_); rintro e w18 ⟨vo, rfl, hq, hb18⟩; have HS18 := Lib.hid (HS17.out.on hb18); have HBI18 := Lib.hid (HBI17.out.below hb18); have HBR := Lib.hid hq; clear hb18 hq))
                    go_ret
                    exact ⟨rfl, HB9.out⟩
        | true =>
          by_cases hin : a ∈ atomsY x.whys
          · rw [if_pos hin] at hz
            subst hz
            obtain rfl : S = 0 := by have := HS.out; unfold supE at this; rw [if_pos HE.out, if_pos HCK.out, if_pos hin] at this; exact this.symm
            have HIN := Lib.hid hin
            obtain ⟨hv, hset, hmod⟩ := xE_ok HE.out
            have HV := Lib.hid hv
            have HSET := Lib.hid hset
            clear hin hv hset hmod
            go_upto_region 26 with (first
              | (go_at_call 19; (with_reducible refine (rsupt_any HS14.out.prog HS14.out.xis HA.out HV.out HSET.out HCK.out HIN.out HW2.out HO.out).mono ?_); rintro e w15 ⟨vo, rfl, hq, hb15⟩; have HS15 := Lib.hid (HS14.out.on hb15); have kp15 := HS15.out.pbx.cell; have kx15 := HS15.out.xbx.cell; have HOI15 := Lib.hid (HOI14.out.below hb15); have HBI15 := Lib.hid (HBI14.out.below hb15); have HOR := Lib.hid hq; clear hb15 hq)
              | (go_at_call 18; (with_reducible refine (int41_same HOI15.out HOR.out).mono ?_); rintro e w16 ⟨rfl, hb16⟩; have HS16 := Lib.hid (HS15.out.on hb16); have kp16 := HS16.out.pbx.cell; have kx16 := HS16.out.xbx.cell; have HBI16 := Lib.hid (HBI15.out.below hb16); clear hb16))
            have HS17 := HS16
            have HBI17 := HBI16
            clear kp14 kx14 kp15 kx15
            generalize wr = wq at *
            go_wp2_with fail
            go_loopw [19, 196] (fun s i wx => EtR2 m a 1 w16 s i wx) (fun _ i _ => m.length - (intOf i).toNat)
            case atStart => exact ⟨0, 1, Nat.zero_le _, rfl, rfl, rfl, rfl⟩
            case round =>
              obtain ⟨k, z', hk, rfl, rfl, hz, rfl⟩ := hrel
              have HZ := Lib.hid hz
              clear hz
              by_cases hlt : k < m.length
              · obtain ⟨b, off, rfl, hbl, hc⟩ := HCM.out (by omega)
                have q0 := (bcell HS17.out.below _ _ hbl).trans (hc k hlt)
                have HNX := Lib.hid (et2_next (a := a) hlt)
                clear hc
                by_cases e : a = ix m k
                · have he : (a == ix m k) = true := by simp [e]
                  have HE1 := Lib.hid e
                  clear e
                  go_wp2_with fail
                  first
                    | (go_roundw
                       case rel => (exact ⟨k + 1, _, hlt, by go_num, rfl, by rw [if_pos (HNX.out.2 (.inr HE1.out))], rfl⟩)
                       case measure => (simp [intOf]; omega))
                    | (refine ⟨?_, ?_⟩
                       · (exact ⟨k + 1, _, hlt, by go_num, rfl, by rw [if_pos (HNX.out.2 (.inr HE1.out))], rfl⟩)
                       · (simp [intOf]; omega))
                · have he : (a == ix m k) = false := by simp [e]
                  have HE1 := Lib.hid e
                  clear e
                  go_wp2_with fail
                  first
                    | (go_roundw
                       case rel => (exact ⟨k + 1, z', hlt, by go_num, rfl, HZ.out.trans (et_ite (HNX.out.trans (or_iff_left HE1.out))).symm, rfl⟩)
                       case measure => (simp [intOf]; omega))
                    | (refine ⟨?_, ?_⟩
                       · (exact ⟨k + 1, z', hlt, by go_num, rfl, HZ.out.trans (et_ite (HNX.out.trans (or_iff_left HE1.out))).symm, rfl⟩)
                       · (simp [intOf]; omega))
              · obtain rfl : k = m.length := by omega
                have hz := HZ.out
                rw [List.take_length] at hz
                have HBK := Lib.hid (et_blk HE.out HB.out)
                clear HZ
                by_cases hm : a ∈ m
                · rw [if_pos hm] at hz
                  subst hz
                  obtain ⟨rfl, hBL⟩ := HBK.out.1 (.inr (.inr hm))
                  have hbl : (BL.length : Int) = 0 := by rw [hBL]; rfl
                  clear hBL hm
                  go_wp2_with ((go_at_call 7; (with_reducible refine (awake41_any _).mono ?_); rintro e w9 ⟨rfl, hb9⟩; have HB9 := Lib.hid ((HS17.out.on hb9).below); clear hb9))
                  go_ret
                  exact ⟨rfl, HB9.out⟩
                · rw [if_neg hm] at hz
                  subst hz
                  by_cases h1 : a < 1
                  · obtain ⟨rfl, hBL⟩ := HBK.out.1 (.inl h1)
                    have hbl : (BL.length : Int) = 0 := by rw [hBL]; rfl
                    clear hBL hm
                    go_wp2_with ((go_at_call 7; (with_reducible refine (awake41_any _).mono ?_); rintro e w9 ⟨rfl, hb9⟩; have HB9 := Lib.hid ((HS17.out.on hb9).below); clear hb9))
                    go_ret
                    exact ⟨rfl, HB9.out⟩
                  · by_cases h2 : p.n < a
                    · obtain ⟨rfl, hBL⟩ := HBK.out.1 (.inr (.inl h2))
                      have hbl : (BL.length : Int) = 0 := by rw [hBL]; rfl
                      clear hBL hm
                      go_wp2_with ((go_at_call 7; (with_reducible refine (awake41_any _).mono ?_); rintro e w9 ⟨rfl, hb9⟩; have HB9 := Lib.hid ((HS17.out.on hb9).below); clear hb9))
                      go_ret
                      exact ⟨rfl, HB9.out⟩
                    · obtain ⟨rfl, hBL⟩ := HBK.out.2 (fun h => h.elim h1 (fun h => h.elim h2 hm))
                      have HBL := Lib.hid hBL
                      obtain ⟨hv, hset, hmod⟩ := xE_ok HE.out
                      have HV := Lib.hid hv
                      have HMO := Lib.hid hmod
                      clear hBL hm hv hset hmod
                      go_wp2_with (first
                        | ((go_at_call 7; (with_reducible refine (awake41_any _).mono ?_); rintro e w9 ⟨rfl, hb9⟩; have HB9 := Lib.hid ((HS19.out.on hb9).below); clear hb9))
                        | (go_at_call 20; (with_reducible refine (blk41_same HBI18.out HBR.out).mono ?_); rintro e w19 ⟨rfl, hb19⟩; have HS19 := Lib.hid (HS18.out.on hb19); clear hb19)
                        | (go_at_call 21; (with_reducible refine (rblkt_any HBL.out HRL1.out HS17.out.prog HS17.out.set HV.out HMO.out).mono ?_); rintro e w18 ⟨vo, rfl, hq, hb18⟩; have HS18 := Lib.hid (HS17.out.on hb18); have HBI18 := Lib.hid (HBI17.out.below hb18); have HBR := Lib.hid hq; clear hb18 hq))
                      go_ret
                      exact ⟨rfl, HB9.out⟩
          · rw [if_neg hin] at hz
            subst hz
            obtain rfl : S = 6 := by have := HS.out; unfold supE at this; rw [if_pos HE.out, if_pos HCK.out, if_neg hin] at this; exact this.symm
            have ho := HO.out.1 (by decide)
            have hol : (out.length : Int) = 0 := by omega
            have HS17 := HS14
            have HBI17 := HBI14
            clear hin ho
            go_upto_region 26 with fail
            generalize wr = wq at *
            go_wp2_with fail
            go_loopw [19, 196] (fun s i wx => EtR2 m a 0 wq s i wx) (fun _ i _ => m.length - (intOf i).toNat)
            case atStart => exact ⟨0, 0, Nat.zero_le _, rfl, rfl, rfl, rfl⟩
            case round =>
              obtain ⟨k, z', hk, rfl, rfl, hz, rfl⟩ := hrel
              have HZ := Lib.hid hz
              clear hz
              by_cases hlt : k < m.length
              · obtain ⟨b, off, rfl, hbl, hc⟩ := HCM.out (by omega)
                have q0 := (bcell HS17.out.below _ _ hbl).trans (hc k hlt)
                have HNX := Lib.hid (et2_next (a := a) hlt)
                clear hc
                by_cases e : a = ix m k
                · have he : (a == ix m k) = true := by simp [e]
                  have HE1 := Lib.hid e
                  clear e
                  go_wp2_with fail
                  first
                    | (go_roundw
                       case rel => (exact ⟨k + 1, _, hlt, by go_num, rfl, by rw [if_pos (HNX.out.2 (.inr HE1.out))], rfl⟩)
                       case measure => (simp [intOf]; omega))
                    | (refine ⟨?_, ?_⟩
                       · (exact ⟨k + 1, _, hlt, by go_num, rfl, by rw [if_pos (HNX.out.2 (.inr HE1.out))], rfl⟩)
                       · (simp [intOf]; omega))
                · have he : (a == ix m k) = false := by simp [e]
                  have HE1 := Lib.hid e
                  clear e
                  go_wp2_with fail
                  first
                    | (go_roundw
                       case rel => (exact ⟨k + 1, z', hlt, by go_num, rfl, HZ.out.trans (et_ite (HNX.out.trans (or_iff_left HE1.out))).symm, rfl⟩)
                       case measure => (simp [intOf]; omega))
                    | (refine ⟨?_, ?_⟩
                       · (exact ⟨k + 1, z', hlt, by go_num, rfl, HZ.out.trans (et_ite (HNX.out.trans (or_iff_left HE1.out))).symm, rfl⟩)
                       · (simp [intOf]; omega))
              · obtain rfl : k = m.length := by omega
                have hz := HZ.out
                rw [List.take_length] at hz
                have HBK := Lib.hid (et_blk HE.out HB.out)
                clear HZ
                by_cases hm : a ∈ m
                · rw [if_pos hm] at hz
                  subst hz
                  obtain ⟨rfl, hBL⟩ := HBK.out.1 (.inr (.inr hm))
                  have hbl : (BL.length : Int) = 0 := by rw [hBL]; rfl
                  clear hBL hm
                  go_wp2_with ((go_at_call 7; (with_reducible refine (awake41_any _).mono ?_); rintro e w9 ⟨rfl, hb9⟩; have HB9 := Lib.hid ((HS17.out.on hb9).below); clear hb9))
                  go_ret
                  exact ⟨rfl, HB9.out⟩
                · rw [if_neg hm] at hz
                  subst hz
                  by_cases h1 : a < 1
                  · obtain ⟨rfl, hBL⟩ := HBK.out.1 (.inl h1)
                    have hbl : (BL.length : Int) = 0 := by rw [hBL]; rfl
                    clear hBL hm
                    go_wp2_with ((go_at_call 7; (with_reducible refine (awake41_any _).mono ?_); rintro e w9 ⟨rfl, hb9⟩; have HB9 := Lib.hid ((HS17.out.on hb9).below); clear hb9))
                    go_ret
                    exact ⟨rfl, HB9.out⟩
                  · by_cases h2 : p.n < a
                    · obtain ⟨rfl, hBL⟩ := HBK.out.1 (.inr (.inl h2))
                      have hbl : (BL.length : Int) = 0 := by rw [hBL]; rfl
                      clear hBL hm
                      go_wp2_with ((go_at_call 7; (with_reducible refine (awake41_any _).mono ?_); rintro e w9 ⟨rfl, hb9⟩; have HB9 := Lib.hid ((HS17.out.on hb9).below); clear hb9))
                      go_ret
                      exact ⟨rfl, HB9.out⟩
                    · obtain ⟨rfl, hBL⟩ := HBK.out.2 (fun h => h.elim h1 (fun h => h.elim h2 hm))
                      have HBL := Lib.hid hBL
                      obtain ⟨hv, hset, hmod⟩ := xE_ok HE.out
                      have HV := Lib.hid hv
                      have HMO := Lib.hid hmod
                      clear hBL hm hv hset hmod
                      go_wp2_with (first
                        | ((go_at_call 7; (with_reducible refine (awake41_any _).mono ?_); rintro e w9 ⟨rfl, hb9⟩; have HB9 := Lib.hid ((HS19.out.on hb9).below); clear hb9))
                        | (go_at_call 20; (with_reducible refine (blk41_same HBI18.out HBR.out).mono ?_); rintro e w19 ⟨rfl, hb19⟩; have HS19 := Lib.hid (HS18.out.on hb19); clear hb19)
                        | (go_at_call 21; (with_reducible refine (rblkt_any HBL.out HRL1.out HS17.out.prog HS17.out.set HV.out HMO.out).mono ?_); rintro e w18 ⟨vo, rfl, hq, hb18⟩; have HS18 := Lib.hid (HS17.out.on hb18); have HBI18 := Lib.hid (HBI17.out.below hb18); have HBR := Lib.hid hq; clear hb18 hq))
                      go_ret
                      exact ⟨rfl, HB9.out⟩
theorem et_law {W : World} {vp vm vx : Value} {p : GP} {m : List Int} {x : XP} (hP : ProgIs W vp p) (hM : Ints W vm m) (hX : ExplIs W vx x) (a : Int) (hw : (Lit.int .i64 a).wf = true) (hT : Pow10 W) :
    Calls Tryz.prog 3 #[vp, vm, vx, .int .i64 a] W fun e W' => e = .returned (.bool true) ∧ Below W.heap.size W W' :=
  et_walk vp vm vx p m x a W hP hM hX (by unfold InI; exact wf_i64 hw) hT
end Go.Proofs.YtgakoainjgjimaaGreatDoor
namespace Go.Proofs.YtgakoainjgjimaaGreatDoor
open Go.RowKit Go.WideShapes
section
variable {H : Type} {enc : TypeId × Value → H} {w : World} {r : Reach} {b0 : Nat} {v : Value} {d : DataW H} {q : List MemPlace}
set_option maxRecDepth 100000 in
theorem arg_Ints (hv : Value.okWide Tryz.prog w r b0 23 v) (h : DataW.Trod enc Tryz.prog w 0 (fun _ => true) true 23 v d q) (hw : ∀ m ∈ d.weights Tryz.prog 23, m ≤ reachBytes) : ∃ l, Ints w v l := by
  obtain ⟨a, n, c, rfl⟩ := okWide_slice Tryz.underlying23 hv
  have hr := arg_reads h hw
  obtain ⟨v', l, he, hp⟩ := open_Ints hr
  have : Value.slice a n c = v' := by simpa [Value.cells] using he
  subst this
  exact ⟨l, hp⟩
end
end Go.Proofs.YtgakoainjgjimaaGreatDoor
