/- My texts Rg41c, Et41a, merged. -/
import Derived.Test.YtgakoainjgjimaaGreatDoorM18
import Derived.Test.YtgakoainjgjimaaGreatDoorM24
import Derived.Test.YtgakoainjgjimaaGreatDoorM23
import Derived.Test.YtgakoainjgjimaaGreatDoorM22
import Derived.Test.YtgakoainjgjimaaGreatDoorM05
import Derived.Test.YtgakoainjgjimaaGreatDoorM04
import Derived.Test.YtgakoainjgjimaaGreatDoorM20
import Derived.Test.YtgakoainjgjimaaGreatDoorM03
import Derived.Test.YtgakoainjgjimaaGreatDoorM00
import Derived.Test.YtgakoainjgjimaaGreatDoorProg
import Derived.WalkKit
import Derived.Lib.Hide
import Derived.Deep.QuietTactic
import Derived.BigQuiet
import Derived.WalkSpells
import Derived.Lib.SliceRun
import Derived.MapKept
import Derived.Maps.OwnSet
import Derived.Maps.OwnOps
import Derived.Test.YtgakoainjgjimaaGreatDoorM02
import Derived.Test.YtgakoainjgjimaaGreatDoorM01
import Derived.Deep.AppendLies
import Derived.Lib.Bytealg
import Derived.Deep.DeepCutAuto
import Derived.Laws.EntriesVeiled
import Derived.Test.YtgakoainjgjimaaGreatDoorM21
import Derived.Test.YtgakoainjgjimaaGreatDoorM07
import Derived.Deep.RegionWith
import Derived.Deep.OwnRows
import Derived.Test.YtgakoainjgjimaaGreatDoorM06
import Derived.RangeFuncNested
import Derived.RangeFuncBound
import Derived.RangeFuncCalls
import Derived.RangeFuncLeaves
import Derived.OwnWalkIn
import Derived.TacticsInMore
import Derived.LoopNIn
import Derived.LoopIn
import Derived.Stop.RegionWithIn
import Derived.Shelf.Abstract
import Derived.Deep.LoopGhost
import Derived.Deep.DrawnRows
import Derived.Test.YtgakoainjgjimaaGreatDoorM08
import Derived.Shelf.Sort.Plain
import Derived.Shelf.Slices.CompactI
import Derived.Shelf.Slices.In.SortNone
import Derived.Shelf.Strconv.Itoa3
import Derived.Shelf.Strings.BuilderK
import Derived.Shelf.Slices.SearchI
import Derived.Shelf.Slices.Empties
import Derived.Test.YtgakoainjgjimaaGreatDoorM12
import Derived.Test.YtgakoainjgjimaaGreatDoorM11
import Derived.Test.YtgakoainjgjimaaGreatDoorM09
import Derived.Deep.AppendSrc
import Derived.Sort.QuietThIn
import Derived.Maps.RangeWalk
import Derived.Lib.SlicesCompact
import Derived.Sort.OwnSortedInts
import Derived.RangeFuncBox
import Derived.Maps.OwnIn
import Derived.Lib.RowBridge
import Derived.Test.YtgakoainjgjimaaGreatDoorM13
import Derived.Test.YtgakoainjgjimaaGreatDoorM10
import Derived.Test.YtgakoainjgjimaaGreatDoorM17
import Derived.Test.YtgakoainjgjimaaGreatDoorM14
import Derived.Test.YtgakoainjgjimaaGreatDoorM16
import Derived.Test.YtgakoainjgjimaaGreatDoorM15
import Derived.Lib.ItoaNum
import Derived.Deep.DeepMust
import Derived.ProofKit
import Derived.OpenShut
import Derived.ChangeArms
import Derived.SizedLaws
import Derived.Deep.RegionHeld3
import Derived.Laws.ResultCell
import Derived.Laws.Rows
import Derived.Deep.RegionLaw
import Derived.Sort.CutIn
import Derived.Laws.IdiomStrings
import Derived.Test.YtgakoainjgjimaaGreatDoorM25
import Derived.Test.YtgakoainjgjimaaGreatDoorM26
import Derived.Test.YtgakoainjgjimaaGreatDoorM19
import Derived.Lib.ItoaLen
import Derived.Lib.AppendIntMem

namespace Go.Proofs.YtgakoainjgjimaaGreatDoor
open Go.RowKit
def Eg1 (w : World) (p : GP) (m : List Int) (n vn vs vr vm : Value) (s k : Value) (W : World) : Prop :=
  ∃ (j : Nat) (vw : Value), j ≤ m.length ∧ k = .int .i64 ((j : Int) + 1) ∧ Ef w n vn vs vr vm vw (.slice none 0 0) (exrTo p m j) [] W ∧ QRow (w.heap.size + 3) W s (atomsY (exrTo p m j))
def Eg2 (w : World) (p : GP) (m : List Int) (n vn vs vr vm : Value) (ws : List WY) (k : Int) (W1 : World) (vS : Value) (mv i : Value) (W : World) : Prop :=
  ∃ (t : Nat) (vw : Value), t ≤ m.length ∧ i = .int .i64 t ∧ Ef w n vn vs vr vm vw (.slice none 0 0) (ws ++ nowI p m ws k t) [] W ∧ QRow (w.heap.size + 3) W vS (atomsY ws) ∧ QRow W1.heap.size W mv (atomsY (nowI p m ws k t)) ∧ W1.heap.size ≤ W.heap.size
def Eg3 (p : GP) (m T : List Int) (a : Int) (W2 : World) (i : Value) (W : World) : Prop :=
  ∃ q : Nat, q ≤ p.rules.length ∧ i = .int .i64 q ∧ (∀ j, j < q → derT T m (ixR p.rules j) a = false) ∧ Below W2.heap.size W2 W
def Eg4 (w : World) (m : List Int) (n vn vs vr vm vw : Value) (ws : List WY) (z : Nat) (vS : Value) (i : Value) (W : World) : Prop :=
  ∃ (t : Nat) (vq : Value), t ≤ m.length ∧ i = .int .i64 t ∧ Ef w n vn vs vr vm vw vq ws (leftX (m.take t) ws) W ∧ QRow z W vq (leftX (m.take t) ws) ∧ QRow (w.heap.size + 3) W vS (atomsY ws) ∧ z ≤ W.heap.size
theorem atomsY_snoc (ws : List WY) (y : WY) : atomsY (ws ++ [y]) = atomsY ws ++ [y.atom] := by simp [atomsY]
theorem atomsY_len (ws : List WY) : (atomsY ws).length = ws.length := by simp [atomsY]
set_option maxHeartbeats 16000000 in
set_option maxRecDepth 100000 in
theorem rexplain_any (v vset : Value) (p : GP) (m : List Int) (w : World) (h : ProgIs w v p) (hm : Ints w vset m) (hv : validE p = 0) (hs : setQ p.n m = true) (hml : m.length ≤ 100) :
    Calls Tryz.prog 16 #[v, vset] w fun e w' => ∃ vx, e = .returned vx ∧ ExplQ (w.heap.size + 3) w' vx (explX p m) ∧ Below w.heap.size w w' := by
  have h0 := h
  obtain ⟨vn, vs, vr, vm, rfl, hps⟩ := h
  obtain ⟨aR, c1, rfl, -, hl1, -, hcr⟩ := hps.rules.form
  obtain ⟨am, cm, rfl, -⟩ := id hm.form
  have hal := bal (bal (bal (Below.refl w.heap.size w) (.cells #[.int .i64 p.n, vn, vs, .slice aR p.rules.length c1, vm] 27)) (.cells #[.slice none 0 0, .slice none 0 0] 30)) (.cells #[.slice none 0 0, .slice none 0 0] 30)
  have HE0 : Hid (Ef w (.int .i64 p.n) vn vs (.slice aR p.rules.length c1) vm (.slice none 0 0) (.slice none 0 0) [] [] (((w.alloc (.cells #[.int .i64 p.n, vn, vs, .slice aR p.rules.length c1, vm] 27)).alloc (.cells #[.slice none 0 0, .slice none 0 0] 30)).alloc (.cells #[.slice none 0 0, .slice none 0 0] 30))) := Lib.hid
    ⟨((Blk.new w _ _).alloc _).alloc _, ((Blk.new2 w _ [.slice none 0 0, .slice none 0 0] _)).alloc _, Blk.newAt _ _ _ (by simp only [World.size_alloc]), .nil _ _, .nil _ _, hal⟩
  have HM := Lib.hid hm
  have HCR := Lib.hid hcr
  have hms := setQ_sorted hs
  have hmn : m.Nodup := hms.imp fun h => Int.ne_of_lt h
  have HEL : Hid (∀ k, (exrTo p m k).length ≤ m.length) := Lib.hid fun k => exrTo_len p hmn k
  have HSUB : Hid (∀ k, ∀ y ∈ exrTo p m k, y.atom ∈ m) := Lib.hid fun k => exrTo_sub p m k
  have HDV : Hid (∀ j, j < p.rules.length → DvOk (ixR p.rules j)) := Lib.hid fun j hj => dvOk_valid hv hj
  have hrl := (validP hv).rules
  have HMR : Hid (∀ i, i < m.length → InI (ix m i)) := Lib.hid fun i _ => hm.2 i
  clear h0 hps hm hcr hal hms hmn hv hs
  go_enter Tryz.func16, Tryz.ntmps16
  go_upto_region 2 with fail
  generalize ((w.alloc (.cells #[.int .i64 p.n, vn, vs, .slice aR p.rules.length c1, vm] 27)).alloc (.cells #[.slice none 0 0, .slice none 0 0] 30)).alloc (.cells #[.slice none 0 0, .slice none 0 0] 30) = W0 at *
  go_wp2
  go_loopw [6, 7] (fun s k wx => Eg1 w p m (.int .i64 p.n) vn vs (.slice aR p.rules.length c1) vm s k wx) (fun _ k _ => m.length + 1 - (intOf k).toNat)
  case atStart => exact ⟨0, _, Nat.zero_le _, rfl, HE0.out, .nil _ _⟩
  case round =>
    obtain ⟨j, vw, hj, rfl, hE, hS⟩ := hrel
    obtain ⟨aS, cS, rfl⟩ := hS.slen
    have hwl : (atomsY (exrTo p m j)).length ≤ 100 := by rw [atomsY_len]; have := HEL.out j; omega
    by_cases hlt : j < m.length
    · obtain ⟨ws, hws⟩ : ∃ ws, exrTo p m j = ws := ⟨_, rfl⟩
      rw [hws] at hE hS hwl
      rw [hws]
      have HWN : Hid (exrTo p m (j + 1) = ws ++ nowX p m (atomsY ws) ((j : Int) + 1) (leftX m ws)) := Lib.hid (by rw [← hws]; rfl)
      have HWM : Hid (∀ y ∈ ws, y.atom ∈ m) := Lib.hid (by rw [← hws]; exact HSUB.out j)
      have hwsl : ws.length ≤ 100 := by rw [← atomsY_len]; exact hwl
      have HE1 := Lib.hid hE
      have HS1 := Lib.hid hS
      have HSL : Hid (∀ i, Value.ownBlock (.slice aS (atomsY ws).length cS) = some i → i < wr.heap.size) := Lib.hid fun i e => (hS.lt41 e).2
      have hjj : (j : Int) + 1 ≤ 101 := by omega
      have HKI : Hid (InI ((j : Int) + 1)) := Lib.hid (by unfold InI; omega)
      clear hws hE hS
      obtain ⟨w1r, rfl⟩ : ∃ x : World, x = wr := ⟨_, rfl⟩
      have hjd : decide ((j : Int) + 1 ≤ (m.length : Int)) = true := decide_eq_true (by omega)
      go_wp2
      go_loopw [8, 9] (fun mv i wx => Eg2 w p m (.int .i64 p.n) vn vs (.slice aR p.rules.length c1) vm ws ((j : Int) + 1) w1r (.slice aS (atomsY ws).length cS) mv i wx) (fun _ i _ => m.length - (intOf i).toNat)
      case atStart => exact ⟨0, vw, Nat.zero_le _, rfl, by rw [nowI_zero, List.append_nil]; exact HE1.out, HS1.out, by rw [nowI_zero]; exact .nil _ _, Nat.le_refl _⟩
      case round =>
        obtain ⟨t, vw2, ht, rfl, hE, hS, hM, hz⟩ := hrel
        obtain ⟨aM, cM, rfl⟩ := hM.slen
        have hnl := nowI_len p m ws ((j : Int) + 1) t
        have hnl2 : (atomsY (nowI p m ws ((j : Int) + 1) t)).length ≤ 100 := by rw [atomsY_len]; omega
        by_cases hlt2 : t < m.length
        · have HE2 := Lib.hid hE
          have HS2 := Lib.hid hS
          have HM2 := Lib.hid hM
          have HZ2 := Lib.hid hz
          obtain ⟨bm, om, rfl, hbm, hcm⟩ := (HM.out.below hE.below).at hlt2
          have HSI2 := Lib.hid (hS.ints (by omega))
          clear hE hS hM hz
          cases hin : decide (ix m t ∈ atomsY ws) with
          | true =>
            have HIN := Lib.hid hin
            have HNO := Lib.hid (nowI_old (p := p) (k := (j : Int) + 1) hlt2 (of_decide_eq_true hin))
            clear hin
            go_wp2_with (go_at_call 53; (with_reducible refine (in17_call HIN.out HSI2.out).mono ?_); rintro e w2 ⟨rfl, rfl⟩)
            first
              | (go_roundw
                 case rel => (exact ⟨t + 1, vw2, hlt2, by go_num, by rw [HNO.out]; exact HE2.out, HS2.out, by rw [HNO.out]; exact HM2.out, HZ2.out⟩)
                 case measure => (simp [intOf]; omega))
              | (refine ⟨?_, ?_⟩
                 · (exact ⟨t + 1, vw2, hlt2, by go_num, by rw [HNO.out]; exact HE2.out, HS2.out, by rw [HNO.out]; exact HM2.out, HZ2.out⟩)
                 · (simp [intOf]; omega))
          | false =>
            have HIN := Lib.hid hin
            have HNI : Hid (ix m t ∉ atomsY ws) := Lib.hid (of_decide_eq_false hin)
            clear hin
            go_wp2_with (go_at_call 53; (with_reducible refine (in17_call HIN.out HSI2.out).mono ?_); rintro e w2 ⟨rfl, rfl⟩)
            obtain ⟨w2r, rfl⟩ : ∃ x : World, x = wr := ⟨_, rfl⟩
            go_loopw [8, 10] (fun mv i wx => mv = .slice aM (atomsY (nowI p m ws ((j : Int) + 1) t)).length cM ∧ Eg3 p m (atomsY ws) (ix m t) w2r i wx) (fun _ i _ => p.rules.length - (intOf i).toNat)
            case atStart => exact ⟨rfl, 0, Nat.zero_le _, rfl, fun j hj => absurd hj (Nat.not_lt_zero _), Below.refl _ _⟩
            case round =>
              obtain ⟨rfl, q, hq, rfl, hall, hb⟩ := hrel
              have HA := Lib.hid hall
              have HE3 := Lib.hid (HE2.out.on hb)
              have HS3 := Lib.hid (HS2.out.below hb)
              have HM3 := Lib.hid (HM2.out.below hb)
              have HZ3 : Hid (w1r.heap.size ≤ wr.heap.size) := Lib.hid (Nat.le_trans HZ2.out hb.size)
              have kp := HE3.out.pbx.cell
              clear hall
              by_cases hlt3 : q < p.rules.length
              · obtain ⟨bR, oR, rfl, hbR, hcR⟩ := HCR.out (by omega)
                obtain ⟨vh, vb, vwt, ⟨r0, r1, r2, r3, r4, r5⟩, hsl⟩ := hcR q hlt3
                have HDQ := Lib.hid (HDV.out q hlt3)
                obtain ⟨r, hr⟩ : ∃ r, ixR p.rules q = r := ⟨_, rfl⟩
                rw [hr] at r0 r2 r3 hsl HDQ
                obtain ⟨x1, y1, rfl, -⟩ := id hsl.head.form
                obtain ⟨x2, y2, rfl, -⟩ := id hsl.body.form
                obtain ⟨x3, y3, rfl, -⟩ := id hsl.wts.form
                have hbl := HE3.out.below
                have hbRl : bR < wr.heap.size := Nat.lt_of_lt_of_le hbR hbl.size
                have hbml : bm < wr.heap.size := Nat.lt_of_lt_of_le hbm hb.size
                have hpl : w.heap.size < wr.heap.size := HE3.out.pbx.lt
                have s0 : ∀ e : Ext wr, _ := fun e => (bcell e.below bR _ hbRl).trans ((bcell hbl bR _ hbR).trans r0)
                have s1 : ∀ e : Ext wr, _ := fun e => (bcell e.below bR _ hbRl).trans ((bcell hbl bR _ hbR).trans r1)
                have s2 : ∀ e : Ext wr, _ := fun e => (bcell e.below bR _ hbRl).trans ((bcell hbl bR _ hbR).trans r2)
                have s3 : ∀ e : Ext wr, _ := fun e => (bcell e.below bR _ hbRl).trans ((bcell hbl bR _ hbR).trans r3)
                have s4 : ∀ e : Ext wr, _ := fun e => (bcell e.below bR _ hbRl).trans ((bcell hbl bR _ hbR).trans r4)
                have s5 : ∀ e : Ext wr, _ := fun e => (bcell e.below bR _ hbRl).trans ((bcell hbl bR _ hbR).trans r5)
                have sm : ∀ e : Ext wr, _ := fun e => (bcell e.below bm _ hbml).trans ((bcell hb bm _ hbm).trans hcm)
                have sp : ∀ e : Ext wr, ∀ o, e.world.cell? ⟨w.heap.size, o, none⟩ = _ := fun e o => (bcell e.below _ o hpl).trans (kp o)
                have HRU : Hid (RuleIs wr (.agg #[.bool r.choice, .slice x1 r.head.length y1, .bool r.sum, .int .i64 r.bound, .slice x2 r.body.length y2, .slice x3 r.w.length y3]) r) := Lib.hid ⟨_, _, _, rfl, hsl.below hbl⟩
                have HMI := Lib.hid (HM.out.below hbl)
                have HSI3 := Lib.hid (HSI2.out.below hb)
                clear r0 r1 r2 r3 r4 r5 hcR hsl hbl
                cases hd : derT (atomsY ws) m r (ix m t) with
                | false =>
                  have HD : Hid (∀ e : Ext wr, Calls Tryz.prog 54 #[.agg #[.bool r.choice, .slice x1 r.head.length y1, .bool r.sum, .int .i64 r.bound, .slice x2 r.body.length y2, .slice x3 r.w.length y3], .slice (some ⟨bm, om, none⟩) m.length cm, .int .i64 (ix m t), .slice aS (atomsY ws).length cS] e.world fun x w' => x = .returned (.bool false) ∧ Below e.world.heap.size e.world w') := Lib.hid fun e =>
                    derives41_call ((derS_eq HWM.out r _).trans hd) (let ⟨a, b, c, e1, e2⟩ := HRU.out; ⟨a, b, c, e1, e2.below e.below⟩) (HMI.out.below e.below) (HSI3.out.below e.below) HDQ.out
                  have HN3 : Hid (∀ j, j < q + 1 → derT (atomsY ws) m (ixR p.rules j) (ix m t) = false) := Lib.hid fun j2 hj2 => by
                    rcases Nat.lt_succ_iff_lt_or_eq.1 hj2 with h1 | rfl
                    · exact HA.out j2 h1
                    · rw [hr]; exact hd
                  have HBB := Lib.hid hb
                  clear hd hr hb
                  go_upto_region 14 with fail
                  refine wp_region_ext (by kernel_rfl) (by kernel_rfl) ?_
                  repeat (go_big_quiet_step ((go_at_call 54; exact Calls.ext_of (HD.out _))))
                  refine wpQuiet_nil ?_
                  intro w9 hw'
                  obtain ⟨e9, he9⟩ := hw'
                  have hb9 := e9.below
                  rw [← he9] at hb9
                  clear he9 e9
                  try dsimp only
                  go_wp2
                  first
                    | (go_roundw
                       case rel => (exact ⟨rfl, q + 1, hlt3, by go_num, HN3.out, bon HBB.out hb9⟩)
                       case measure => (simp [intOf]; omega))
                    | (refine ⟨?_, ?_⟩
                       · (exact ⟨rfl, q + 1, hlt3, by go_num, HN3.out, bon HBB.out hb9⟩)
                       · (simp [intOf]; omega))
                | true =>
                  have HD : Hid (∀ e : Ext wr, Calls Tryz.prog 54 #[.agg #[.bool r.choice, .slice x1 r.head.length y1, .bool r.sum, .int .i64 r.bound, .slice x2 r.body.length y2, .slice x3 r.w.length y3], .slice (some ⟨bm, om, none⟩) m.length cm, .int .i64 (ix m t), .slice aS (atomsY ws).length cS] e.world fun x w' => x = .returned (.bool true) ∧ Below e.world.heap.size e.world w') := Lib.hid fun e =>
                    derives41_call ((derS_eq HWM.out r _).trans hd) (let ⟨a, b, c, e1, e2⟩ := HRU.out; ⟨a, b, c, e1, e2.below e.below⟩) (HMI.out.below e.below) (HSI3.out.below e.below) HDQ.out
                  have HFI := Lib.hid (nowI_new (k := (j : Int) + 1) hlt2 HNI.out (firR_at hlt3 HA.out (by rw [hr]; exact hd)))
                  have HMT := Lib.hid (HMR.out t hlt2)
                  clear hd hr
                  go_upto_region 14 with fail
                  refine wp_region_ext (by kernel_rfl) (by kernel_rfl) ?_
                  repeat (go_big_quiet_step ((go_at_call 54; exact Calls.ext_of (HD.out _))))
                  refine wpQuiet_nil ?_
                  intro w9 hw'
                  obtain ⟨e9, he9⟩ := hw'
                  have hb9 := e9.below
                  rw [← he9] at hb9
                  clear he9 e9
                  try dsimp only
                  go_upto_region 15 with fail
                  obtain ⟨WL, hWL⟩ : ∃ WL, ws ++ nowI p m ws ((j : Int) + 1) t = WL := ⟨_, rfl⟩
                  have hWLl : WL.length ≤ 200 := by rw [← hWL, List.length_append]; omega
                  have HWL := Lib.hid hWL
                  have hE4 := HE3.out.on hb9
                  rw [hWL] at hE4
                  have HE4 := Lib.hid hE4
                  clear hE4 hWL
                  have HS4 := Lib.hid (HS3.out.below hb9)
                  have HM4 := Lib.hid (HM3.out.below hb9)
                  have hz9 := hb9.size
                  have HZ4 : Hid (w1r.heap.size ≤ w9.heap.size) := Lib.hid (by have := HZ3.out; omega)
                  obtain ⟨aw4, cw4, e4⟩ := HE4.out.whs.slen
                  subst e4
                  have hoc := HE4.out.obx.cell
                  have hol : w.heap.size + 2 < w9.heap.size := HE4.out.obx.lt
                  have so : ∀ e : Ext w9, ∀ o, e.world.cell? ⟨w.heap.size + 2, o, none⟩ = _ := fun e o => (bcell e.below _ o hol).trans (hoc o)
                  have sm9 : ∀ e : Ext w9, e.world.cell? ⟨bm, om + t, none⟩ = some (.int .i64 (ix m t)) := fun e => (bcell e.below bm _ (by omega)).trans ((bcell hb9 bm _ hbml).trans ((bcell hb bm _ hbm).trans hcm))
                  have hqI : InI (q : Int) := by unfold InI; omega
                  have HYI : Hid (YI ⟨ix m t, q, (j : Int) + 1⟩) := Lib.hid ⟨HMT.out, hqI, HKI.out⟩
                  clear s0 s1 s2 s3 s4 s5 sm sp hoc hb9 hb hqI
                  refine wp_region_tail' 10 (fun _ => True) (egΦ ⟨ix m t, q, (j : Int) + 1⟩) (fun i => i == 9) (by kernel_rfl) (by kernel_rfl) (by kernel_rfl) (fun _ _ => trivial) (egΦ_later _) ?_
                  simp only [List.take_succ_cons, List.take_zero, List.drop_succ_cons, List.drop_zero]
                  iterate 9 (refine walkP_head (by kernel_rfl) rfl rfl rfl (fun K hK => ?_); go_big_quiet_op; refine hK _ ?_; clear hK K)
                  refine walkP_mem rfl rfl (fun wa hba hFa => ?_) (fun v10 lo hi l10 g10 h10 => ?_)
                  · go_simp
                    exact ⟨bal (Below.refl _ _) _, rfl, by simp, Blk.new _ _ _⟩
                  obtain ⟨_, rfl, -, -⟩ := h10
                  simp only [Act.put, List.setIfInBounds_toArray, List.set_cons_succ, List.set_cons_zero]
                  intro wx hbx hF hI hP
                  obtain ⟨-, -, f10⟩ := hF _ (.head _)
                  have HEX := Lib.hid (HE4.out.on hbx)
                  have HSX := Lib.hid (HS4.out.below hbx)
                  have HMX := Lib.hid (HM4.out.below hbx)
                  have HZX : Hid (w1r.heap.size ≤ wx.heap.size) := Lib.hid (Nat.le_trans HZ4.out hbx.size)
                  have hxm : ∃ b o, True := ⟨0, 0, trivial⟩
                  have HCMX : Hid (wx.cell? ⟨bm, om + t, none⟩ = some (.int .i64 (ix m t)) ∧ bm < wx.heap.size) := Lib.hid ⟨sm9 ⟨wx, hbx⟩, by have := hbx.size; omega⟩
                  have HF10 := Lib.hid f10
                  clear hF hI hP f10 hbx so sm9 hxm
                  refine ⟨rfl, rfl, ?_⟩
                  refine wp_appendY1 _ _ rfl (w.heap.size + 3) lo 1 (.slice aw4 WL.length cw4) WL ⟨ix m t, q, (j : Int) + 1⟩ rfl HEX.out.whs rfl HF10.out HYI.out (by omega) HEX.out.low ?_
                  intro g cap w10 hm10 hg10
                  have HE5 := Lib.hid (HEX.out.pushW hg10 hm10)
                  have ho10 := HEX.out.obx.same (hg10.block _ HEX.out.obx.lt fun e => HEX.out.whs.far HEX.out.obx (by decide) e.symm)
                  have kc10 := ho10.cell
                  have kf10 := ho10.free
                  have HS5 := Lib.hid ((HSX.out.whyKept HEX.out.whs hg10).setT41 ho10 (by decide) 0 (.slice (some ⟨g, 0, none⟩) (WL.length + 1) cap))
                  have HM5 := Lib.hid ((HMX.out.whyKept HEX.out.whs hg10).setT41 ho10 (by decide) 0 (.slice (some ⟨g, 0, none⟩) (WL.length + 1) cap))
                  have HZ5 : Hid (w1r.heap.size ≤ (w10.setCell ⟨w.heap.size + 2, 0, none⟩ (.slice (some ⟨g, 0, none⟩) (WL.length + 1) cap)).heap.size) := Lib.hid (by simp only [World.size_setCell]; exact Nat.le_trans HZX.out hg10.size)
                  have HIM5 := Lib.hid ((HM.out.below HE5.out.below).at hlt2)
                  clear hm10 hg10 ho10
                  refine ⟨trivial, rfl, rfl, ?_⟩
                  go_simp
                  refine ⟨rfl, rfl, ?_⟩
                  go_simp
                  simp only [tailW]
                  generalize w10.setCell ⟨w.heap.size + 2, 0, none⟩ (.slice (some ⟨g, 0, none⟩) (WL.length + 1) cap) = W11 at *
                  have hz11 := HZ5.out
                  have hlo11 := HE5.out.low
                  have hal := bal (Below.refl W11.heap.size W11) (.cells #[.int .i64 (ix m t)] 3)
                  have HE6 := Lib.hid (HE5.out.on hal)
                  have HS6 := Lib.hid (HS5.out.below hal)
                  have HM6 := Lib.hid (HM5.out.below hal)
                  have hcmx : ∃ b o, True := ⟨0, 0, trivial⟩
                  obtain ⟨bm2, om2, e2, -, kcm⟩ := HIM5.out
                  simp only [Option.some.injEq, Addr.mk.injEq, and_true] at e2
                  obtain ⟨rfl, rfl⟩ := e2
                  clear hal hcmx kc10 kf10
                  go_wp2_with (at_builtin; refine wpList_appendQ rfl _ _ 23 Tryz.underlying23 rfl w1r.heap.size (.slice aM (atomsY (nowI p m ws ((j : Int) + 1) t)).length cM) (atomsY (nowI p m ws ((j : Int) + 1) t)) (ix m t) rfl HM6.out W11.heap.size 1 rfl (Blk.new W11 [.int .i64 (ix m t)] _) HMT.out (by omega) (by simp; omega) ?_; intro v7 w12 hq7 hg7 hn7; obtain ⟨a7, c7, e7⟩ := hq7.slen; subst e7; have HM7 := Lib.hid hq7; have HE7 := Lib.hid (HE6.out.pushI HM6.out (by have := HE1.out.low; omega) hg7 (fun i e => by cases e)); have HS7 := Lib.hid (HS6.out.kept fun i h1 h2 e => hg7.block i h2 fun e2 => by (have h3 := HSL.out i e; have h4 := (HM6.out.lt41 e2.symm).1; omega)); have HZ7 : Hid (w1r.heap.size ≤ w12.heap.size) := Lib.hid (by have := hg7.size; simp at this; omega); clear hq7 hg7 hn7)
                  have HFE : Hid (ws ++ nowI p m ws ((j : Int) + 1) (t + 1) = WL ++ [⟨ix m t, q, (j : Int) + 1⟩]) := Lib.hid (by rw [HFI.out, ← List.append_assoc, HWL.out])
                  have HFA : Hid (atomsY (nowI p m ws ((j : Int) + 1) (t + 1)) = atomsY (nowI p m ws ((j : Int) + 1) t) ++ [ix m t]) := Lib.hid (by rw [HFI.out, atomsY_snoc])
                  first
                    | (go_roundw
                       case rel => (exact ⟨t + 1, _, hlt2, by go_num, by rw [HFE.out]; exact HE7.out, HS7.out, by rw [HFA.out]; have h7 := HM7.out; rw [List.length_append] at h7; exact h7, HZ7.out⟩)
                       case measure => (simp [intOf]; omega))
                    | (refine ⟨?_, ?_⟩
                       · (exact ⟨t + 1, _, hlt2, by go_num, by rw [HFE.out]; exact HE7.out, HS7.out, by rw [HFA.out]; have h7 := HM7.out; rw [List.length_append] at h7; exact h7, HZ7.out⟩)
                       · (simp [intOf]; omega))
              · obtain rfl : q = p.rules.length := by omega
                have HNN := Lib.hid (nowI_no (k := (j : Int) + 1) hlt2 HNI.out (firR_no HA.out))
                go_wp2
                first
                  | (go_roundw
                     case rel => (exact ⟨t + 1, vw2, hlt2, by go_num, by rw [HNN.out]; exact HE3.out, HS3.out, by rw [HNN.out]; exact HM3.out, HZ3.out⟩)
                     case measure => (simp [intOf]; omega))
                  | (refine ⟨?_, ?_⟩
                     · (exact ⟨t + 1, vw2, hlt2, by go_num, by rw [HNN.out]; exact HE3.out, HS3.out, by rw [HNN.out]; exact HM3.out, HZ3.out⟩)
                     · (simp [intOf]; omega))
        · obtain rfl : t = m.length := by omega
          obtain ⟨nw, hnw⟩ : ∃ nw, nowI p m ws ((j : Int) + 1) m.length = nw := ⟨_, rfl⟩
          rw [hnw] at hE hM hnl hnl2
          rw [hnw]
          have HNW : Hid (exrTo p m (j + 1) = ws ++ nw) := Lib.hid (by rw [HWN.out, ← nowI_end, hnw])
          have hzl := hE.low
          have hal := bal (Below.refl wr.heap.size wr) (.cells #[] 3)
          have HEW := Lib.hid hE
          have HSI := Lib.hid ((hS.below hal).ints (by omega))
          have HMI0 := Lib.hid (hM.ints (by omega))
          have HQE : Hid (QRow wr.heap.size (wr.alloc (.cells #[] 3)) (.slice (some ⟨wr.heap.size, 0, none⟩) 0 0) []) := Lib.hid (QRow.empty (heap_alloc_new wr _) (Nat.le_refl _))
          have HZB : Hid (w.heap.size + 3 ≤ wr.heap.size) := Lib.hid hzl
          clear hE hS hM hnw hal
          go_wp2_with (first
            | (at_builtin; refine wpList_appendQs rfl _ _ rfl wr.heap.size (.slice (some ⟨wr.heap.size, 0, none⟩) 0 0) (.slice aS (atomsY ws).length cS) [] (atomsY ws) rfl rfl HQE.out HSI.out (by simp; omega) (by simp) ?_; intro v5 w5 hq5 hg5 hn5; obtain ⟨a5, c5, e5⟩ := hq5.slen; subst e5; have HB5 : Hid (Below wr.heap.size wr w5) := Lib.hid ((bal (Below.refl _ _) _).grown hg5 (by simp) fun k e => by (have : wr.heap.size = k := by simpa [Value.ownBlock] using e); omega); have HQ5 : Hid (QRow wr.heap.size w5 (.slice a5 (atomsY ws).length c5) (atomsY ws)) := Lib.hid (by simpa using hq5); have HMI5 := Lib.hid (HMI0.out.below HB5.out); have HZ5 := HB5.out.size; clear hq5 hg5 hn5)
            | (at_builtin; refine wpList_appendQs rfl _ _ rfl wr.heap.size (.slice a5 (atomsY ws).length c5) (.slice aM (atomsY nw).length cM) (atomsY ws) (atomsY nw) rfl rfl HQ5.out HMI5.out (by omega) HZ5 ?_; intro v6 w6 hq6 hg6 hn6; obtain ⟨a6, c6, e6⟩ := hq6.slen; subst e6; have HB6 : Hid (Below wr.heap.size wr w6) := Lib.hid (HB5.out.grown hg6 HZ5 fun k e => (HQ5.out.lt41 e).1); have HQ6 := Lib.hid hq6; clear hq6 hg6 hn6))
          have HAA : Hid (atomsY (exrTo p m (j + 1)) = atomsY ws ++ atomsY nw) := Lib.hid (by rw [HNW.out, atoms_app])
          have HE6 := Lib.hid (HEW.out.on HB6.out)
          have HQ7 : Hid (QRow (w.heap.size + 3) w6 (.slice a6 ((atomsY ws).length + (atomsY nw).length) c6) (atomsY ws ++ atomsY nw)) := Lib.hid (by have h6 := HQ6.out.mono HZB.out; rw [List.length_append] at h6; exact h6)
          first
            | (go_roundw
               case rel => (exact ⟨j + 1, vw2, hlt, by push_cast; rfl, by rw [HNW.out]; exact HE6.out, by rw [HAA.out]; exact HQ7.out⟩)
               case measure => (simp [intOf]; omega))
            | (refine ⟨?_, ?_⟩
               · (exact ⟨j + 1, vw2, hlt, by push_cast; rfl, by rw [HNW.out]; exact HE6.out, by rw [HAA.out]; exact HQ7.out⟩)
               · (simp [intOf]; omega))
    · obtain rfl : j = m.length := by omega
      obtain ⟨ws, hws⟩ : ∃ ws, exrTo p m m.length = ws := ⟨_, rfl⟩
      rw [hws] at hE hS hwl
      rw [hws]
      have HXP : Hid (explX p m = ⟨ws, leftX m ws⟩) := Lib.hid (by rw [explX_ref, hws])
      have hzl := hE.low
      obtain ⟨awh, cwh, rfl⟩ := hE.whs.slen
      have HE1 := Lib.hid hE
      have HS1 := Lib.hid hS
      have HSL : Hid (∀ i, Value.ownBlock (.slice aS (atomsY ws).length cS) = some i → i < wr.heap.size) := Lib.hid fun i e => (hS.lt41 e).2
      have hjd : decide ((m.length : Int) + 1 ≤ (m.length : Int)) = false := decide_eq_false (by omega)
      clear hws hE hS
      obtain ⟨w1r, rfl⟩ : ∃ x : World, x = wr := ⟨_, rfl⟩
      go_wp2
      go_loopw [11] (fun i wx => Eg4 w m (.int .i64 p.n) vn vs (.slice aR p.rules.length c1) vm (.slice awh ws.length cwh) ws w1r.heap.size (.slice aS (atomsY ws).length cS) i wx) (fun i _ => m.length - (intOf i).toNat)
      case atStart => exact ⟨0, _, Nat.zero_le _, rfl, HE1.out, .nil _ _, HS1.out, Nat.le_refl _⟩
      case round =>
        obtain ⟨t, vq, ht, rfl, hE, hQ, hS, hz⟩ := hrel
        obtain ⟨aq, cq, rfl⟩ := hQ.slen
        have hlf : (leftX (m.take t) ws).length ≤ 100 := Nat.le_trans (List.length_filter_le _ _) (by rw [List.length_take]; omega)
        have HE2 := Lib.hid hE
        have HQ2 := Lib.hid hQ
        have HS2 := Lib.hid hS
        have HZ2 := Lib.hid hz
        by_cases hlt2 : t < m.length
        · obtain ⟨bm, om, rfl, hbm, hcm⟩ := (HM.out.below hE.below).at hlt2
          have HSI2 := Lib.hid (hS.ints (by omega))
          have HMT := Lib.hid (HMR.out t hlt2)
          have HTK := Lib.hid (leftX_take (ws := ws) hlt2)
          clear hE hQ hS hz
          cases hin : decide (ix m t ∈ atomsY ws) with
          | true =>
            have HIN := Lib.hid hin
            rw [if_pos (of_decide_eq_true hin), List.append_nil] at HTK
            clear hin
            go_wp2_with (go_at_call 53; (with_reducible refine (in17_call HIN.out HSI2.out).mono ?_); rintro e w2 ⟨rfl, rfl⟩)
            first
              | (go_roundw
                 case rel => (exact ⟨t + 1, _, hlt2, by go_num, by rw [HTK.out]; exact HE2.out, by rw [HTK.out]; exact HQ2.out, HS2.out, HZ2.out⟩)
                 case measure => (simp [intOf]; omega))
              | (refine ⟨?_, ?_⟩
                 · (exact ⟨t + 1, _, hlt2, by go_num, by rw [HTK.out]; exact HE2.out, by rw [HTK.out]; exact HQ2.out, HS2.out, HZ2.out⟩)
                 · (simp [intOf]; omega))
          | false =>
            have HIN := Lib.hid hin
            rw [if_neg (of_decide_eq_false hin)] at HTK
            clear hin
            obtain ⟨LF, hLF⟩ : ∃ LF, leftX (m.take t) ws = LF := ⟨_, rfl⟩
            rw [hLF] at hlf HE2 HQ2 HTK
            clear hLF
            go_upto_region 22 with (go_at_call 53; (with_reducible refine (in17_call HIN.out HSI2.out).mono ?_); rintro e w2 ⟨rfl, rfl⟩)
            have hoc := HE2.out.obx.cell
            have hol : w.heap.size + 2 < wr.heap.size := HE2.out.obx.lt
            have so : ∀ e : Ext wr, ∀ o, e.world.cell? ⟨w.heap.size + 2, o, none⟩ = _ := fun e o => (bcell e.below _ o hol).trans (hoc o)
            have sm : ∀ e : Ext wr, e.world.cell? ⟨bm, om + t, none⟩ = some (.int .i64 (ix m t)) := fun e => (bcell e.below bm _ hbm).trans hcm
            clear hoc
            refine wp_region_tail' 7 (fun _ => True) (egI (ix m t)) (fun i => i == 6) (by kernel_rfl) (by kernel_rfl) (by kernel_rfl) (fun _ _ => trivial) (egI_later _) ?_
            simp only [List.take_succ_cons, List.take_zero, List.drop_succ_cons, List.drop_zero]
            iterate 6 (refine walkP_head (by kernel_rfl) rfl rfl rfl (fun K hK => ?_); go_big_quiet_op; refine hK _ ?_; clear hK K)
            refine walkP_mem rfl rfl (fun wa hba hFa => ?_) (fun v10 lo hi l10 g10 h10 => ?_)
            · go_simp
              exact ⟨bal (Below.refl _ _) _, rfl, by simp, Blk.new _ _ _⟩
            obtain ⟨_, rfl, -, -⟩ := h10
            simp only [Act.put, List.setIfInBounds_toArray, List.set_cons_succ, List.set_cons_zero]
            intro wx hbx hF hI hP
            obtain ⟨-, -, f10⟩ := hF _ (.head _)
            have HEX := Lib.hid (HE2.out.on hbx)
            have HSX := Lib.hid (HS2.out.below hbx)
            have HQX := Lib.hid (HQ2.out.below hbx)
            have HZX : Hid (w1r.heap.size ≤ wx.heap.size) := Lib.hid (Nat.le_trans HZ2.out hbx.size)
            have HF10 := Lib.hid f10
            clear hF hI hP f10 hbx so sm
            refine ⟨rfl, rfl, ?_⟩
            refine wp_appendQ _ _ 23 Tryz.underlying23 rfl w1r.heap.size (.slice aq LF.length cq) LF (ix m t) rfl HQX.out lo 1 rfl HF10.out HMT.out (by omega) HZX.out ?_
            intro v7 w10 hq7 hg7 hn7
            obtain ⟨a7, c7, e7⟩ := hq7.slen
            subst e7
            rw [show (LF ++ [ix m t]).length = LF.length + 1 by simp] at hq7
            have ho10 := HEX.out.obx.same (hg7.block _ HEX.out.obx.lt fun e => HQX.out.far HEX.out.obx (by decide) e.symm)
            have kc10 := ho10.cell
            have kf10 := ho10.free
            have HE5 := Lib.hid (HEX.out.pushR hg7 (hq7.mono hzl))
            have HQ5 := Lib.hid (hq7.setT41 ho10 (by decide) 1 (.slice a7 (LF.length + 1) c7))
            have HS5 := Lib.hid ((HSX.out.kept fun i h1 h2 e => hg7.block i h2 fun e2 => by (have h3 := HSL.out i e; have h4 := (HQX.out.lt41 e2.symm).1; omega)).setT41 ho10 (by decide) 1 (.slice a7 (LF.length + 1) c7))
            have HZ5 : Hid (w1r.heap.size ≤ (w10.setCell ⟨w.heap.size + 2, 1, none⟩ (.slice a7 (LF.length + 1) c7)).heap.size) := Lib.hid (by simp only [World.size_setCell]; exact Nat.le_trans HZX.out hg7.size)
            clear hq7 hg7 hn7 ho10
            refine ⟨trivial, rfl, rfl, ?_⟩
            go_simp
            refine ⟨rfl, rfl, ?_⟩
            go_simp
            simp only [tailW]
            generalize w10.setCell ⟨w.heap.size + 2, 1, none⟩ (.slice a7 (LF.length + 1) c7) = W11 at *
            clear kc10 kf10
            go_wp2
            first
              | (go_roundw
                 case rel => (exact ⟨t + 1, _, hlt2, by go_num, by rw [HTK.out]; exact HE5.out, by rw [HTK.out]; exact HQ5.out, HS5.out, HZ5.out⟩)
                 case measure => (simp [intOf]; omega))
              | (refine ⟨?_, ?_⟩
                 · (exact ⟨t + 1, _, hlt2, by go_num, by rw [HTK.out]; exact HE5.out, by rw [HTK.out]; exact HQ5.out, HS5.out, HZ5.out⟩)
                 · (simp [intOf]; omega))
        · obtain rfl : t = m.length := by omega
          rw [List.take_length] at HE2 HQ2 hlf
          obtain ⟨LF, hLF⟩ : ∃ LF, leftX m ws = LF := ⟨_, rfl⟩
          rw [hLF] at HE2 HQ2 HXP hlf
          clear hE hQ hS hz
          clear hLF
          have kr2 := HE2.out.rbx.cell
          have kf2 := HE2.out.rbx.free
          have ko2 := HE2.out.obx.cell
          have HR2 := Lib.hid HE2.out.rbx
          go_wp2_with fail
          have hres := (HR2.out.set 0 (.slice awh ws.length cwh)).set 1 (.slice aq LF.length cq)
          simp only [List.set_cons_zero, List.set_cons_succ] at hres
          have kr9 := hres.cell
          have hbel : Below w.heap.size w ((wr.setCell ⟨w.heap.size + 1, 0, none⟩ (.slice awh ws.length cwh)).setCell ⟨w.heap.size + 1, 1, none⟩ (.slice aq LF.length cq)) := (HE2.out.below.setCell (by show w.heap.size ≤ w.heap.size + 1; omega) _).setCell (by show w.heap.size ≤ w.heap.size + 1; omega) _
          have hsame : ∀ i, i ≠ w.heap.size + 1 → ((wr.setCell ⟨w.heap.size + 1, 0, none⟩ (.slice awh ws.length cwh)).setCell ⟨w.heap.size + 1, 1, none⟩ (.slice aq LF.length cq)).heap[i]? = wr.heap[i]? := fun i h1 => (Below.heap_setCell _ _ _ _ h1).trans (Below.heap_setCell _ _ _ _ h1)
          have hw9 := HE2.out.whs.same fun i h1 _ _ => hsame i (by omega)
          have hr9 := HE2.out.rst.kept fun i h1 _ _ => hsame i (by omega)
          rw [HXP.out]
          clear kr2 kf2 ko2 hres
          generalize (wr.setCell ⟨w.heap.size + 1, 0, none⟩ (.slice awh ws.length cwh)).setCell ⟨w.heap.size + 1, 1, none⟩ (.slice aq LF.length cq) = W9 at *
          refine bodyPost_ret (v := .agg #[.slice awh ws.length cwh, .slice aq LF.length cq]) ?_ rfl ⟨_, rfl, ⟨_, _, rfl, hw9, hr9⟩, hbel⟩
          simp [results, Tryz.f16, go_sem, kr9]
theorem few17_names {p : GP} (h : few17B p = true) (i : Nat) : (ixS p.names i).data.toList.length ≤ 40 := by
  unfold few17B at h
  simp only [Bool.and_eq_true, decide_eq_true_eq] at h
  by_cases hi : i < p.names.length
  · have := allR_get h.2.1 i hi
    unfold few17N at this
    have := of_decide_eq_true this
    rw [Array.length_toList]
    exact this
  · have : ixS p.names i = ⟨#[]⟩ := by simp [ixS, List.getD, Nat.le_of_not_lt hi]
    rw [this]
    decide
theorem few17_rl {p : GP} (h : few17B p = true) : p.rules.length ≤ 16 := by
  unfold few17B at h
  simp only [Bool.and_eq_true, decide_eq_true_eq] at h
  exact h.1.1.2
def supE (p : GP) (m : List Int) (x : XP) (a : Int) : Int :=
  if xE p m = 0 then (if chkX p m x = true then (if a ∈ atomsY x.whys then 0 else 6) else 2) else xE p m
def SupO (p : GP) (x : XP) (a E : Int) (out : List Int) : Prop := (E ≠ 0 → out.length = 0) ∧ (E = 0 → out.Pairwise (· < ·) ∧ ∀ b, b ∈ out ↔ SupR p x a b)
section
variable {v vset vx : Value} {p : GP} {m : List Int} {x : XP} {w : World}
theorem supt_any {a S : Int} (hS : supE p m x a = S) (h : ProgIs w v p) (hm : Ints w vset m) (hx : ExplIs w vx x) (ha : InI a) (hl : x.whys.length ≤ 500) :
    Calls Tryz.prog 11 #[v, vset, vx, .int .i64 a] w fun e w' => ∃ a1 c1 out, e = .returned (.tuple #[.slice a1 out.length c1, .int .i64 S]) ∧ Ints w' (.slice a1 out.length c1) out ∧ SupO p x a S out ∧ Below w.heap.size w w' := by
  refine (support_any v vset vx p m x a w h hm hx ha hl).mono ?_
  rintro e w' ⟨vo, out, E, rfl, hq, hb, hc⟩
  obtain ⟨a1, c1, rfl⟩ := hq.slen
  have key : E = S ∧ SupO p x a S out ∧ out.length ≤ 500 := by
    unfold supE at hS
    rcases hc with ⟨h1, rfl, rfl⟩ | ⟨h1, h2, rfl, rfl⟩ | ⟨h1, h2, h3, rfl, rfl⟩ | ⟨h1, h2, h3, rfl, h4, h5⟩
    · rw [if_neg h1] at hS
      subst hS
      exact ⟨rfl, ⟨fun _ => rfl, fun e => absurd e h1⟩, Nat.zero_le _⟩
    · rw [if_pos h1, h2, if_neg Bool.false_ne_true] at hS
      subst hS
      exact ⟨rfl, ⟨fun _ => rfl, fun e => absurd e (by decide)⟩, Nat.zero_le _⟩
    · rw [if_pos h1, if_pos h2, if_neg h3] at hS
      subst hS
      exact ⟨rfl, ⟨fun _ => rfl, fun e => absurd e (by decide)⟩, Nat.zero_le _⟩
    · rw [if_pos h1, if_pos h2, if_pos h3] at hS
      subst hS
      refine ⟨rfl, ⟨fun e => absurd rfl e, fun _ => ⟨h4, h5⟩⟩, ?_⟩
      have := sub_len (h4.imp fun h => Int.ne_of_lt h) (fun b hb => ((h5 b).1 hb).in h3)
      simp only [atomsY, List.length_map] at this
      omega
  obtain ⟨rfl, h1, h2⟩ := key
  exact ⟨a1, c1, out, rfl, hq.ints (by omega), h1, hb⟩
theorem rsupt_any {a : Int} (h : ProgIs w v p) (hx : ExplIs w vx x) (ha : InI a) (hv : validE p = 0) (hset : setQ p.n m = true) (hck : chkX p m x = true) (hin : a ∈ atomsY x.whys) (hwl : x.whys.length ≤ 100) {out : List Int} (hO : SupO p x a 0 out) :
    Calls Tryz.prog 19 #[v, vx, .int .i64 a] w fun e w' => ∃ vo, e = .returned vo ∧ Ints w' vo out ∧ Below w.heap.size w w' := by
  refine (rsupport41_any v vx p m x a w h hx ha hv hset hck hin hwl).mono ?_
  rintro e w' ⟨vo, out', rfl, hq, hb, hl, h1, h2⟩
  obtain ⟨h3, h4⟩ := hO.2 rfl
  obtain rfl : out' = out := sorted_eqP h1 h3 (fun b => (h2 b).trans (h4 b).symm)
  exact ⟨vo, rfl, hq.ints (by omega), hb⟩
theorem blkt_any {a B : Int} {L : List BK} (hB : blksX p m a = (L, B)) (hrl : p.rules.length ≤ 1000) (h : ProgIs w v p) (hm : Ints w vset m) :
    Calls Tryz.prog 12 #[v, vset, .int .i64 a] w fun e w' => ∃ a1 c1, e = .returned (.tuple #[.slice a1 L.length c1, .int .i64 B]) ∧ BlksIs w' (.slice a1 L.length c1) L ∧ Below w.heap.size w w' := by
  refine (blocks_any v vset p m a w h hm).mono ?_
  rintro e w' ⟨vo, rfl, hq, hb⟩
  have hl : (blksX p m a).1.length ≤ 1000 := by
    unfold blksX
    split
    · simp
    · split
      · simp
      · have := blksTo_len p m a p.rules.length; dsimp only; omega
  rw [hB] at hq hl ⊢
  dsimp only at hq hl ⊢
  obtain ⟨a1, c1, rfl⟩ := hq.slen
  exact ⟨a1, c1, rfl, hq.blks (by omega), hb⟩
theorem rblkt_any {a : Int} {L : List BK} (hL : blksTo p m a p.rules.length = L) (hrl : p.rules.length ≤ 1000) (h : ProgIs w v p) (hm : Ints w vset m) (hv : validE p = 0) (hmod : modelsB p m = true) :
    Calls Tryz.prog 21 #[v, vset, .int .i64 a] w fun e w' => ∃ vo, e = .returned vo ∧ BlksIs w' vo L ∧ Below w.heap.size w w' := by
  refine (rblocks41_any v vset p m a w h hm hv hmod).mono ?_
  rintro e w' ⟨vo, rfl, hq, hb⟩
  have hl := blksTo_len p m a p.rules.length
  rw [hL] at hq hl
  exact ⟨vo, rfl, hq.blks (by omega), hb⟩
def explO (p : GP) (m : List Int) : XP := if xE p m = 0 then explX p m else ⟨[], []⟩
theorem explO_len (p : GP) (m : List Int) : (explO p m).whys.length ≤ m.length ∧ (explO p m).rest.length ≤ m.length := by
  unfold explO
  split
  · next h =>
    obtain ⟨h1, h2, _⟩ := xE_ok h
    have := chk_len (expl_valid h1 h2)
    omega
  · simp
theorem explt_any {E : Int} {L : List WY} {R : List Int} (hE : xE p m = E) (hX : explO p m = ⟨L, R⟩) (hml : m.length ≤ 1000) (h : ProgIs w v p) (hm : Ints w vset m) :
    Calls Tryz.prog 9 #[v, vset] w fun e w' => ∃ a1 c1 a2 c2, e = .returned (.tuple #[.agg #[.slice a1 L.length c1, .slice a2 R.length c2], .int .i64 E]) ∧ ExplIs w' (.agg #[.slice a1 L.length c1, .slice a2 R.length c2]) ⟨L, R⟩ ∧ Below w.heap.size w w' := by
  refine (explain_any v vset p m w h hm).mono ?_
  rintro e w' ⟨vx, rfl, hq, hb⟩
  have hl := explO_len p m
  rw [show (if xE p m = 0 then explX p m else ⟨[], []⟩) = (⟨L, R⟩ : XP) from hX] at hq
  rw [hX] at hl
  dsimp only at hl
  obtain ⟨vw, vr, rfl, h1, h2⟩ := hq
  obtain ⟨a1, c1, rfl⟩ := h1.slen
  obtain ⟨a2, c2, rfl⟩ := h2.slen
  subst hE
  exact ⟨a1, c1, a2, c2, rfl, ⟨_, _, rfl, h1.whys (by dsimp only; omega), h2.ints (by dsimp only; omega)⟩, hb⟩
theorem rexplt_any {L : List WY} {R : List Int} (hE : xE p m = 0) (hX : explO p m = ⟨L, R⟩) (hml : m.length ≤ 100) (h : ProgIs w v p) (hm : Ints w vset m) :
    Calls Tryz.prog 16 #[v, vset] w fun e w' => ∃ a1 c1 a2 c2, e = .returned (.agg #[.slice a1 L.length c1, .slice a2 R.length c2]) ∧ ExplIs w' (.agg #[.slice a1 L.length c1, .slice a2 R.length c2]) ⟨L, R⟩ ∧ Below w.heap.size w w' := by
  obtain ⟨hv, hs, _⟩ := xE_ok hE
  refine (rexplain_any v vset p m w h hm hv hs hml).mono ?_
  rintro e w' ⟨vx, rfl, hq, hb⟩
  have hl := explO_len p m
  unfold explO at hX hl
  rw [if_pos hE] at hX hl
  rw [hX] at hq hl
  dsimp only at hl
  obtain ⟨vw, vr, rfl, h1, h2⟩ := hq
  obtain ⟨a1, c1, rfl⟩ := h1.slen
  obtain ⟨a2, c2, rfl⟩ := h2.slen
  exact ⟨a1, c1, a2, c2, rfl, ⟨_, _, rfl, h1.whys (by dsimp only; omega), h2.ints (by dsimp only; omega)⟩, hb⟩
theorem rcheckt_any {c : Bool} (hE : xE p m = 0) (hc : chkX p m x = c) (h : ProgIs w v p) (hm : Ints w vset m) (hx : ExplIs w vx x) (hwl : x.whys.length ≤ 100) (hrl : x.rest.length ≤ 100) (hml : m.length ≤ 100) :
    Calls Tryz.prog 17 #[v, vset, vx] w fun e w' => e = .returned (.bool c) ∧ Below w.heap.size w w' := by
  obtain ⟨hv, hs, _⟩ := xE_ok hE
  have := rcheck41_any v vset vx p m x w h hm hx hv hwl hrl hml
  rwa [chkR2_eq, ← chk_ref x hv hs, hc] at this
theorem checkt_any {c : Bool} {E : Int} (hE : xE p m = E) (hc : (decide (E = 0) && chkX p m x) = c) (h : ProgIs w v p) (hm : Ints w vset m) (hx : ExplIs w vx x) (hl : x.whys.length ≤ 500) :
    Calls Tryz.prog 10 #[v, vset, vx] w fun e w' => e = .returned (.tuple #[.bool c, .int .i64 E]) ∧ Below w.heap.size w w' := by
  have := checkX_any v vset vx p m x w h hm hx hl
  rwa [hE, hc] at this
theorem errt_any {E : Int} (hE : xE p m = E) (h : ProgIs w v p) (hm : Ints w vset m) :
    Calls Tryz.prog 8 #[v, vset] w fun e w' => e = .returned (.int .i64 E) ∧ Below w.heap.size w w' := by
  have := error41_any v vset p m w h hm
  rwa [hE] at this
theorem rtextt_any {T : ByteArray} (hT : ⟨(textX p.names x).toArray⟩ = T) (hn : ∀ i, (ixS p.names i).data.toList.length ≤ 40) (hP : Pow10 w) (h : ProgIs w v p) (hx : ExplIs w vx x) (hwl : x.whys.length ≤ 100) (hrl : x.rest.length ≤ 100) :
    Calls Tryz.prog 14 #[v, vx] w fun e w' => e = .returned (.string T) ∧ Below w.heap.size w w' := by
  obtain ⟨h1, h2⟩ := okn_whys hP hx
  have := rtext41_any v vx p x w h hx hn h1 h2 hwl hrl
  rwa [hT] at this
end
end Go.Proofs.YtgakoainjgjimaaGreatDoor
