/- My texts Lw41, merged. -/
import Derived.Test.YtfajkmmmmmfhiaaGreatDoorM30
import Derived.Test.YtfajkmmmmmfhiaaGreatDoorM20
import Derived.Test.YtfajkmmmmmfhiaaGreatDoorM16
import Derived.Test.YtfajkmmmmmfhiaaGreatDoorM13
import Derived.Test.YtfajkmmmmmfhiaaGreatDoorM12
import Derived.Test.YtfajkmmmmmfhiaaGreatDoorM09
import Derived.Test.YtfajkmmmmmfhiaaGreatDoorM08
import Derived.Test.YtfajkmmmmmfhiaaGreatDoorM07
import Derived.Test.YtfajkmmmmmfhiaaGreatDoorM24
import Derived.Test.YtfajkmmmmmfhiaaGreatDoorM06
import Derived.Test.YtfajkmmmmmfhiaaGreatDoorM05
import Derived.Test.YtfajkmmmmmfhiaaGreatDoorM04
import Derived.Test.YtfajkmmmmmfhiaaGreatDoorM21
import Derived.Test.YtfajkmmmmmfhiaaGreatDoorM22
import Derived.Test.YtfajkmmmmmfhiaaGreatDoorM03
import Derived.Test.YtfajkmmmmmfhiaaGreatDoorM00
import Derived.Test.YtfajkmmmmmfhiaaGreatDoorProg
import Derived.WalkKit
import Derived.Lib.Hide
import Derived.Deep.QuietTactic
import Derived.BigQuiet
import Derived.WalkSpells
import Derived.Lib.SliceRun
import Derived.MapKept
import Derived.Maps.OwnSet
import Derived.Maps.OwnOps
import Derived.Test.YtfajkmmmmmfhiaaGreatDoorM02
import Derived.Test.YtfajkmmmmmfhiaaGreatDoorM01
import Derived.Deep.AppendLies
import Derived.Lib.Bytealg
import Derived.Deep.DeepCutAuto
import Derived.Laws.EntriesVeiled
import Derived.Deep.RegionWith
import Derived.Deep.OwnRows
import Derived.RangeFuncNested
import Derived.RangeFuncBound
import Derived.RangeFuncCalls
import Derived.RangeFuncLeaves
import Derived.OwnWalkIn
import Derived.TacticsInMore
import Derived.LoopNIn
import Derived.LoopIn
import Derived.Stop.RegionWithIn
import Derived.Shelf.Abstract
import Derived.Test.YtfajkmmmmmfhiaaGreatDoorM23
import Derived.Deep.LoopGhost
import Derived.Deep.DrawnRows
import Derived.Shelf.Sort.Plain
import Derived.Shelf.Slices.CompactI
import Derived.Shelf.Slices.In.SortNone
import Derived.Shelf.Strconv.Itoa3
import Derived.Shelf.Strings.BuilderK
import Derived.Shelf.Slices.SearchI
import Derived.Shelf.Slices.Empties
import Derived.Deep.AppendSrc
import Derived.Lib.SlicesCompact
import Derived.Sort.OwnSortedInts
import Derived.Test.YtfajkmmmmmfhiaaGreatDoorM11
import Derived.Test.YtfajkmmmmmfhiaaGreatDoorM15
import Derived.Test.YtfajkmmmmmfhiaaGreatDoorM14
import Derived.Sort.QuietThIn
import Derived.Maps.RangeWalk
import Derived.RangeFuncBox
import Derived.Maps.OwnIn
import Derived.Lib.RowBridge
import Derived.Test.YtfajkmmmmmfhiaaGreatDoorM17
import Derived.Test.YtfajkmmmmmfhiaaGreatDoorM19
import Derived.Test.YtfajkmmmmmfhiaaGreatDoorM10
import Derived.Lib.ItoaNum
import Derived.Test.YtfajkmmmmmfhiaaGreatDoorM25
import Derived.Test.YtfajkmmmmmfhiaaGreatDoorM27
import Derived.Test.YtfajkmmmmmfhiaaGreatDoorM26
import Derived.Deep.RegionHeld3
import Derived.Laws.ResultCell
import Derived.Laws.Rows
import Derived.Deep.RegionLaw
import Derived.Sort.CutIn
import Derived.Deep.DeepMust
import Derived.ProofKit
import Derived.OpenShut
import Derived.ChangeArms
import Derived.SizedLaws
import Derived.Test.YtfajkmmmmmfhiaaGreatDoorM28

namespace Go.Proofs.YtfajkmmmmmfhiaaGreatDoor
open Go.RowKit
set_option maxHeartbeats 16000000 in
set_option maxRecDepth 100000 in
theorem eleast_any (v vx : Value) (p : GP) (bits : Int) (x : XP) (w : World) (h : ProgIs w v p) (hx : ExplIs w vx x) :
    Calls Tryz.prog 7 #[v, .int .u16 bits, vx] w fun e w' => e = .returned (.bool true) ∧ Below w.heap.size w w' := by
  have h0 := h
  have hx0 := hx
  obtain ⟨vn, vs, vr, vm, rfl, hps⟩ := h
  obtain ⟨xw, xr, rfl, hwh, hrs⟩ := hx
  obtain ⟨aw, cw, rfl, -⟩ := id hwh.form
  obtain ⟨ar, cr, rfl, -⟩ := id hrs.form
  have hIn := hps.n
  unfold InI at hIn
  have HX := Lib.hid hx0
  have HS0 := Lib.hid (ES41.start (xw := .slice aw x.whys.length cw) (xr := .slice ar x.rest.length cr) h0)
  have kx0 := HS0.out.st.box.cell
  have ky0 := HS0.out.bx.cell
  clear h0 hps hwh hrs hx0
  go_enter Tryz.func7, Tryz.ntmps7
  go_upto_region 1 with fail
  generalize (w.alloc (.cells #[.int .i64 p.n, vn, vs, vr, vm] 27)).alloc (.cells #[.slice aw x.whys.length cw, .slice ar x.rest.length cr] 30) = W0 at *
  cases hf : few17B p with
  | false =>
    have HFW := Lib.hid hf
    clear hf
    go_wp2_with (first | (go_at_call 12; (with_reducible refine (awake41_any _).mono ?_); rintro e w9 ⟨rfl, hb9⟩; have HE9 := Lib.hid (HS1.out.st.on hb9); clear hb9) | (go_at_call 11; (with_reducible refine (few17_any _ p _ HS0.out.st.prog).mono ?_); rintro e w1 ⟨h1, hb1⟩; rw [HFW.out] at h1; subst h1; have HS1 := Lib.hid (HS0.out.on hb1); have kx1 := HS1.out.st.box.cell; have ky1 := HS1.out.bx.cell; clear hb1))
    go_ret
    exact ⟨rfl, HE9.out.below⟩
  | true =>
    have hn12 := few17_n hf
    have HFW := Lib.hid hf
    clear hf
    by_cases hv : validE p = 0
    case neg =>
      have hveq : (validE p != 0) = true := by simp [hv]
      clear hv
      go_wp2_with (first | (go_at_call 12; (with_reducible refine (awake41_any _).mono ?_); rintro e w9 ⟨rfl, hb9⟩; have HE9 := Lib.hid (HS2.out.st.on hb9); clear hb9) | (go_at_call 27; (with_reducible refine (valid_any _ p w1 HS1.out.st.prog).mono ?_); rintro e w2 ⟨rfl, hb2⟩; have HS2 := Lib.hid (HS1.out.on hb2); have kx2 := HS2.out.st.box.cell; have ky2 := HS2.out.bx.cell; clear hb2) | (go_at_call 11; (with_reducible refine (few17_any _ p _ HS0.out.st.prog).mono ?_); rintro e w1 ⟨h1, hb1⟩; rw [HFW.out] at h1; subst h1; have HS1 := Lib.hid (HS0.out.on hb1); have kx1 := HS1.out.st.box.cell; have ky1 := HS1.out.bx.cell; clear hb1))
      go_ret
      exact ⟨rfl, HE9.out.below⟩
    have hn0 := (validP hv).n
    have hveq : (validE p != 0) = false := by simp [hv]
    have HV := Lib.hid hv
    clear hv
    by_cases hlen : 14 < x.whys.length
    · go_wp2_with (first | (go_at_call 12; (with_reducible refine (awake41_any _).mono ?_); rintro e w9 ⟨rfl, hb9⟩; have HE9 := Lib.hid (HS2.out.st.on hb9); clear hb9) | (go_at_call 27; (with_reducible refine (valid_any _ p w1 HS1.out.st.prog).mono ?_); rintro e w2 ⟨rfl, hb2⟩; have HS2 := Lib.hid (HS1.out.on hb2); have kx2 := HS2.out.st.box.cell; have ky2 := HS2.out.bx.cell; clear hb2) | (go_at_call 11; (with_reducible refine (few17_any _ p _ HS0.out.st.prog).mono ?_); rintro e w1 ⟨h1, hb1⟩; rw [HFW.out] at h1; subst h1; have HS1 := Lib.hid (HS0.out.on hb1); have kx1 := HS1.out.st.box.cell; have ky1 := HS1.out.bx.cell; clear hb1))
      go_ret
      exact ⟨rfl, HE9.out.below⟩
    obtain ⟨m, hm⟩ : ∃ m, subL bits p.n.toNat = m := ⟨_, rfl⟩
    have hset := subL_set19 bits hn0.1
    have hml : m.length ≤ 12 := by have := subL_len bits p.n.toNat; rw [hm] at this; omega
    rw [hm] at hset
    have HM := Lib.hid hm
    have HSET := Lib.hid hset
    clear hm hset
    cases hmod : modelsB p m with
    | false =>
      have HE : Hid (xE p m = 410) := Lib.hid (xE_no HV.out HSET.out hmod)
      clear hmod
      go_wp2_with (first
        | (go_at_call 12; (with_reducible refine (awake41_any _).mono ?_); rintro e w9 ⟨rfl, hb9⟩; have HE9 := Lib.hid ((HS4.out.st.on (bal (Below.refl _ _) _)).on hb9); clear hb9)
        | (go_at_call 14; (with_reducible refine (expl_no HE.out HS3.out.st.prog HI3.out).mono ?_); rintro e w4 ⟨a1, c1, a2, c2, rfl, hb4⟩; have HS4 := Lib.hid (HS3.out.on hb4); have kx4 := HS4.out.st.box.cell; have ky4 := HS4.out.bx.cell; clear hb4)
        | (go_at_call 28; (with_reducible refine (subset19_int p.n bits ⟨hn0.1, by omega⟩ w2).mono ?_); rintro e w3 ⟨vS, rfl, hq, hb3⟩; rw [HM.out] at hq; obtain ⟨aS, cS, rfl⟩ := hq.slen; have HS3 := Lib.hid (HS2.out.on hb3); have kx3 := HS3.out.st.box.cell; have ky3 := HS3.out.bx.cell; have HI3 := Lib.hid (hq.ints (by omega)); clear hb3 hq) | (go_at_call 27; (with_reducible refine (valid_any _ p w1 HS1.out.st.prog).mono ?_); rintro e w2 ⟨rfl, hb2⟩; have HS2 := Lib.hid (HS1.out.on hb2); have kx2 := HS2.out.st.box.cell; have ky2 := HS2.out.bx.cell; clear hb2) | (go_at_call 11; (with_reducible refine (few17_any _ p _ HS0.out.st.prog).mono ?_); rintro e w1 ⟨h1, hb1⟩; rw [HFW.out] at h1; subst h1; have HS1 := Lib.hid (HS0.out.on hb1); have kx1 := HS1.out.st.box.cell; have ky1 := HS1.out.bx.cell; clear hb1))
      go_ret
      exact ⟨rfl, HE9.out.below⟩
    | true =>
      have HE : Hid (xE p m = 0) := Lib.hid (xE_of HV.out HSET.out hmod)
      clear hmod
      obtain ⟨L, R, hLR⟩ : ∃ L R, explX p m = ⟨L, R⟩ := ⟨_, _, rfl⟩
      have hck : chkX p m ⟨L, R⟩ = true := by rw [← hLR]; exact expl_valid HV.out HSET.out
      have hll := chk_len hck
      dsimp only at hll
      obtain ⟨c, hc⟩ : ∃ c, chkX p m x = c := ⟨_, rfl⟩
      have HLR := Lib.hid hLR
      have HCK := Lib.hid hck
      have HC := Lib.hid hc
      have HL5 : Hid ((⟨L, R⟩ : XP).whys.length ≤ 500) := Lib.hid (by show L.length ≤ 500; omega)
      have HX5 : Hid (x.whys.length ≤ 500) := Lib.hid (by omega)
      clear hLR hck hc
      go_upto_region 5 with (first
        | (go_at_call 14; (with_reducible refine (expl_ok HE.out HLR.out HS3.out.st.prog HI3.out).mono ?_); rintro e w4 ⟨a1, c1, a2, c2, rfl, hY4, hR4, hb4⟩; have HS4 := Lib.hid (HS3.out.on hb4); have kx4 := HS4.out.st.box.cell; have ky4 := HS4.out.bx.cell; have HI4 := Lib.hid (HI3.out.below hb4); have HY4 := Lib.hid (hY4.whys (by omega)); have HR4 := Lib.hid (hR4.ints (by omega)); clear hb4 hY4 hR4)
        | (go_at_call 28; (with_reducible refine (subset19_int p.n bits ⟨hn0.1, by omega⟩ w2).mono ?_); rintro e w3 ⟨vS, rfl, hq, hb3⟩; rw [HM.out] at hq; obtain ⟨aS, cS, rfl⟩ := hq.slen; have HS3 := Lib.hid (HS2.out.on hb3); have kx3 := HS3.out.st.box.cell; have ky3 := HS3.out.bx.cell; have HI3 := Lib.hid (hq.ints (by omega)); clear hb3 hq) | (go_at_call 27; (with_reducible refine (valid_any _ p w1 HS1.out.st.prog).mono ?_); rintro e w2 ⟨rfl, hb2⟩; have HS2 := Lib.hid (HS1.out.on hb2); have kx2 := HS2.out.st.box.cell; have ky2 := HS2.out.bx.cell; clear hb2) | (go_at_call 11; (with_reducible refine (few17_any _ p _ HS0.out.st.prog).mono ?_); rintro e w1 ⟨h1, hb1⟩; rw [HFW.out] at h1; subst h1; have HS1 := Lib.hid (HS0.out.on hb1); have kx1 := HS1.out.st.box.cell; have ky1 := HS1.out.bx.cell; clear hb1))
      have hal := bal (Below.refl w4.heap.size w4) (.cells #[.slice a1 L.length c1, .slice a2 R.length c2] 30)
      have HS5 : Hid (El41 w p vn vs vr vm (.slice aS m.length cS) m (.slice aw x.whys.length cw) (.slice ar x.rest.length cr) x w4.heap.size (.slice a1 L.length c1) (.slice a2 R.length c2) L R (w4.alloc (.cells #[.slice a1 L.length c1, .slice a2 R.length c2] 30))) := Lib.hid ⟨HS4.out.st.on hal, HS4.out.bx.below hal, HX.out.below (bon HS4.out.st.below hal), HI4.out.below hal, Blk.new _ _ _, HY4.out.below hal, HR4.out.below hal⟩
      have kx5 := HS5.out.st.box.cell
      have ky5 := HS5.out.bx.cell
      have kz5 := HS5.out.xbx.cell
      have hxb := HS5.out.xbx.lt
      clear hal kx0 kx1 kx2 kx3 kx4 ky0 ky1 ky2 ky3 ky4
      generalize w4.alloc (.cells #[.slice a1 L.length c1, .slice a2 R.length c2] 30) = W5 at *
      generalize w4.heap.size = xb at *
      have HXM : Hid (ExplIs W5 (.agg #[.slice a1 L.length c1, .slice a2 R.length c2]) ⟨L, R⟩) := Lib.hid ⟨_, _, rfl, HS5.out.whs, HS5.out.rst⟩
      go_upto_region 12 with (first
        | (go_at_call 15; (with_reducible refine (check_ok (x := ⟨L, R⟩) HE.out HCK.out HS5.out.st.prog HS5.out.set HXM.out HL5.out).mono ?_); rintro e w6 ⟨rfl, hb6⟩; have HS6 := Lib.hid (HS5.out.on hb6); have kx6 := HS6.out.st.box.cell; have ky6 := HS6.out.bx.cell; have kz6 := HS6.out.xbx.cell; clear hb6)
        | (go_at_call 15; (with_reducible refine (check_ok HE.out HC.out HS6.out.st.prog HS6.out.set HS6.out.xis HX5.out).mono ?_); rintro e w7 ⟨rfl, hb7⟩; have HS7 := Lib.hid (HS6.out.on hb7); have kx7 := HS7.out.st.box.cell; have ky7 := HS7.out.bx.cell; have kz7 := HS7.out.xbx.cell; clear hb7))
      clear kx5 ky5 kz5 kx6 ky6 kz6
      go_wp2_with fail
      go_loopw [14, 91] (fun d i wx => El1Rel L w7 d i wx) (fun _ i _ => L.length - (intOf i).toNat)
      case atStart => exact ⟨0, Nat.zero_le _, rfl, by rw [List.take_zero]; exact OwnL.nil _ _, Below.refl _ _⟩
      case round =>
        obtain ⟨j, hj, rfl, ho, hb⟩ := hrel
        have HB := Lib.hid hb
        by_cases hlt : j < L.length
        · obtain ⟨ao, co, rfl⟩ := ho.slen
          obtain ⟨a1', c1', e1, -, -, -, hcY⟩ := (HS7.out.whs.below hb).form
          simp only [Value.slice.injEq] at e1
          obtain ⟨rfl, -, rfl⟩ := e1
          obtain ⟨b, off, rfl, hbl, hc⟩ := hcY (by omega)
          obtain ⟨k0, k1, k2⟩ := hc j hlt
          obtain ⟨y, hy⟩ : ∃ y, ixY L j = y := ⟨_, rfl⟩
          rw [hy] at k0 k1 k2
          have HT := Lib.hid (atoms_take hlt)
          rw [hy] at HT
          have HYI : Hid (InI y.atom) := Lib.hid (by have := HS7.out.whs.2 _ (ixY_mem0 hlt); rw [hy] at this; exact this.1)
          have HO := Lib.hid ho
          have hdl : ((atomsY L).take j).length = j := by rw [List.length_take]; unfold atomsY; rw [List.length_map]; omega
          have HDL := Lib.hid hdl
          have hjb : j ≤ 12 := by omega
          clear ho hb hcY hc hy hdl
          generalize (atomsY L).take j = D at *
          go_upto_region 15 with fail
          have hal := bal (Below.refl wr.heap.size wr) (.cells #[.int .i64 y.atom, .int .i64 y.rule, .int .i64 y.level] 49)
          have HBX := Lib.hid (Blk.new wr [.int .i64 y.atom, .int .i64 y.rule, .int .i64 y.level] 49)
          have kb := HBX.out.cell
          have HO1 := Lib.hid (HO.out.below hal)
          have HB1 := Lib.hid (bon HB.out hal)
          have hz1 := HB1.out.size
          clear hal k0 k1 k2
          generalize wr.alloc (.cells #[.int .i64 y.atom, .int .i64 y.rule, .int .i64 y.level] 49) = W1 at *
          go_wp2_with (at_builtin; refine wpList_appendO rfl _ _ rfl w7.heap.size W1.heap.size _ D y.atom rfl rfl (HO1.out.below (bal (Below.refl _ _) _)) (Blk.new W1 [.int .i64 y.atom] _) HYI.out (by have := HDL.out; omega) (by simp; omega) ?_; intro g cap w8 hm8 hg8; have HM8 := Lib.hid hm8; have HB8 : Hid (Below w7.heap.size w7 w8) := Lib.hid (belowO (bal HB1.out _) (HO1.out.below (bal (Below.refl _ _) _)) hg8 (by simp; omega)); clear hm8 hg8)
          first
            | (go_roundw
               case rel => (exact ⟨j + 1, hlt, by go_num, by rw [HT.out]; exact HM8.out, HB8.out⟩)
               case measure => (simp [intOf]; omega))
            | (refine ⟨?_, ?_⟩
               · (exact ⟨j + 1, hlt, by go_num, by rw [HT.out]; exact HM8.out, HB8.out⟩)
               · (simp [intOf]; omega))
        · obtain rfl : j = L.length := by omega
          have hta : (atomsY L).take L.length = atomsY L := by rw [List.take_of_length_le]; unfold atomsY; rw [List.length_map]; exact Nat.le_refl _
          have hal : (atomsY L).length = L.length := by unfold atomsY; rw [List.length_map]
          rw [hta] at ho
          obtain ⟨DV, hDV⟩ : ∃ DV, atomsY L = DV := ⟨_, rfl⟩
          rw [hDV] at ho hal
          have HDV := Lib.hid (ho.ownI (by rw [hal]; omega)).ints
          have HDE := Lib.hid hDV
          obtain ⟨ad, cd, rfl⟩ := ho.slen
          have HAL := Lib.hid hal
          clear hta ho hal hDV
          have HS8 := Lib.hid (HS7.out.on hb)
          have kx8 := HS8.out.st.box.cell
          have ky8 := HS8.out.bx.cell
          have kz8 := HS8.out.xbx.cell
          clear hb HB kx7 ky7 kz7
          generalize wr = w8 at *
          go_upto_if 101 with fail
          go_cut [] (fun wx => Below w8.heap.size w8 wx)
          case first =>
            cases c with
            | false =>
              go_wp2_with fail
              go_meet
              case rel => exact Below.refl _ _
            | true =>
              have HFA : Hid (∀ b ∈ x.whys, anyR L.length (fdY L b) = true) := Lib.hid fun b hb => fdY_all HV.out HSET.out HC.out HLR.out hb
              go_wp2_with fail
              go_loopw [105] (fun i wx => El2Rel x.whys.length w8 i wx) (fun i _ => x.whys.length - (intOf i).toNat)
              case atStart => exact ⟨0, Nat.zero_le _, rfl, Below.refl _ _⟩
              case round =>
                obtain ⟨j, hj, rfl, hb⟩ := hrel
                have HB := Lib.hid hb
                by_cases hlt : j < x.whys.length
                · obtain ⟨a1', c1', e1, -, -, -, hcY⟩ := (HS8.out.xw.below hb).form
                  simp only [Value.slice.injEq] at e1
                  obtain ⟨rfl, -, rfl⟩ := e1
                  obtain ⟨b, off, rfl, hbl, hc⟩ := hcY (by omega)
                  obtain ⟨k0, k1, k2⟩ := hc j hlt
                  obtain ⟨y, hy⟩ : ∃ y, ixY x.whys j = y := ⟨_, rfl⟩
                  rw [hy] at k0 k1 k2
                  have HYM : Hid (y ∈ x.whys) := Lib.hid (by rw [← hy]; exact ixY_mem0 hlt)
                  have HS9 := Lib.hid (HS8.out.on hb)
                  clear hb hcY hc hy
                  go_upto_region 21 with fail
                  have hal := bal (Below.refl wr.heap.size wr) (.cells #[.int .i64 y.atom, .int .i64 y.rule, .int .i64 y.level] 49)
                  have HBX := Lib.hid (Blk.new wr [.int .i64 y.atom, .int .i64 y.rule, .int .i64 y.level] 49)
                  have kb := HBX.out.cell
                  have HS10 := Lib.hid (HS9.out.on hal)
                  have kz10 := HS10.out.xbx.cell
                  have HB1 := Lib.hid (bon HB.out hal)
                  clear hal k0 k1 k2
                  generalize wr.alloc (.cells #[.int .i64 y.atom, .int .i64 y.rule, .int .i64 y.level] 49) = W1 at *
                  generalize wr.heap.size = yb at *
                  generalize wr = wq at *
                  go_wp2_with fail
                  go_loopw [19, 112] (fun f i wx => El3Rel L y W1 f i wx) (fun _ i _ => L.length - (intOf i).toNat)
                  case atStart => exact ⟨0, Nat.zero_le _, rfl, rfl, Below.refl _ _⟩
                  case round =>
                    obtain ⟨j2, hj2, rfl, rfl, hb⟩ := hrel
                    have HB2 := Lib.hid hb
                    by_cases hlt2 : j2 < L.length
                    · obtain ⟨a1', c1', e1, -, -, -, hcY⟩ := (HS10.out.whs.below hb).form
                      simp only [Value.slice.injEq] at e1
                      obtain ⟨rfl, -, rfl⟩ := e1
                      obtain ⟨b2, off2, rfl, hbl2, hc⟩ := hcY (by omega)
                      obtain ⟨k0, k1, k2⟩ := hc j2 hlt2
                      have HFD : Hid (anyR (j2 + 1) (fdY L y) = (anyR j2 (fdY L y) || (decide ((ixY L j2).atom = y.atom) && decide ((ixY L j2).level ≤ y.level)))) := Lib.hid (anyR_succ _ _)
                      have HBX2 := Lib.hid (HBX.out.below hb)
                      generalize ixY L j2 = z at *
                      clear hb hcY hc
                      go_upto_region 25 with fail
                      have hal := bal (Below.refl wr.heap.size wr) (.cells #[.int .i64 z.atom, .int .i64 z.rule, .int .i64 z.level] 49)
                      have HBZ := Lib.hid (Blk.new wr [.int .i64 z.atom, .int .i64 z.rule, .int .i64 z.level] 49)
                      have kbz := HBZ.out.cell
                      have kby := (HBX2.out.below hal).cell
                      have HB3 := Lib.hid (bon HB2.out hal)
                      clear hal k0 k1 k2
                      generalize wr.alloc (.cells #[.int .i64 z.atom, .int .i64 z.rule, .int .i64 z.level] 49) = W2 at *
                      generalize wr.heap.size = zb at *
                      cases hf : anyR j2 (fdY L y) with
                      | true =>
                        rw [hf] at HFD
                        clear hf
                        go_wp2_with fail
                        first
                          | (go_roundw
                             case rel => (exact ⟨j2 + 1, hlt2, by go_num, by rw [HFD.out]; rfl, HB3.out⟩)
                             case measure => (simp [intOf]; omega))
                          | (refine ⟨?_, ?_⟩
                             · (exact ⟨j2 + 1, hlt2, by go_num, by rw [HFD.out]; rfl, HB3.out⟩)
                             · (simp [intOf]; omega))
                      | false =>
                        rw [hf] at HFD
                        clear hf
                        by_cases h1 : z.atom = y.atom
                        · have h1b : (z.atom == y.atom) = true := by simp [h1]
                          rw [decide_eq_true h1] at HFD
                          clear h1
                          by_cases h2 : z.level ≤ y.level
                          · have h2b := decide_eq_true h2
                            rw [h2b] at HFD
                            go_wp2_with fail
                            first
                              | (go_roundw
                                 case rel => (exact ⟨j2 + 1, hlt2, by go_num, by rw [HFD.out]; rfl, HB3.out⟩)
                                 case measure => (simp [intOf]; omega))
                              | (refine ⟨?_, ?_⟩
                                 · (exact ⟨j2 + 1, hlt2, by go_num, by rw [HFD.out]; rfl, HB3.out⟩)
                                 · (simp [intOf]; omega))
                          · have h2b := decide_eq_false h2
                            rw [h2b] at HFD
                            go_wp2_with fail
                            first
                              | (go_roundw
                                 case rel => (exact ⟨j2 + 1, hlt2, by go_num, by rw [HFD.out]; rfl, HB3.out⟩)
                                 case measure => (simp [intOf]; omega))
                              | (refine ⟨?_, ?_⟩
                                 · (exact ⟨j2 + 1, hlt2, by go_num, by rw [HFD.out]; rfl, HB3.out⟩)
                                 · (simp [intOf]; omega))
                        · have h1b : (z.atom == y.atom) = false := by simp [h1]
                          rw [decide_eq_false h1] at HFD
                          clear h1
                          go_wp2_with fail
                          first
                            | (go_roundw
                               case rel => (exact ⟨j2 + 1, hlt2, by go_num, by rw [HFD.out]; rfl, HB3.out⟩)
                               case measure => (simp [intOf]; omega))
                            | (refine ⟨?_, ?_⟩
                               · (exact ⟨j2 + 1, hlt2, by go_num, by rw [HFD.out]; rfl, HB3.out⟩)
                               · (simp [intOf]; omega))
                    · obtain rfl : j2 = L.length := by omega
                      rw [HFA.out y HYM.out]
                      go_wp2_with fail
                      first
                        | (go_roundw
                           case rel => (exact ⟨j + 1, hlt, by go_num, bon HB1.out hb⟩)
                           case measure => (simp [intOf]; omega))
                        | (refine ⟨?_, ?_⟩
                           · (exact ⟨j + 1, hlt, by go_num, bon HB1.out hb⟩)
                           · (simp [intOf]; omega))
                · obtain rfl : j = x.whys.length := by omega
                  go_wp2_with fail
                  go_meet
                  case rel => exact hb
          case rest =>
            have HS9 := Lib.hid (HS8.out.on hcut)
            have HDV9 := Lib.hid (HDV.out.below (bon (Below.refl _ _) hcut))
            have kx9 := HS9.out.st.box.cell
            clear hcut kx8 ky8 kz8
            generalize wc = w9 at *
            obtain ⟨RR, hRR⟩ : ∃ RR, redL p m = RR := ⟨_, rfl⟩
            have HRR := Lib.hid hRR
            have hRl : RR.length ≤ 40000 := by rw [← hRR]; exact redL_few (few17_head HFW.out).1 (few17_head HFW.out).2
            clear hRR
            have hBR : ∀ i, i < RR.length → ∃ k, k < p.rules.length ∧ (ixR RR i).head.length ≤ 40 := fun i hi => by
              obtain ⟨k, hk, h2⟩ := (redTo_mem _).1 (show ixR RR i ∈ redTo p m p.rules.length by rw [← show redL p m = redTo p m p.rules.length from rfl, HRR.out]; exact ixR_mem hi)
              obtain ⟨y, hd, -, e, h3⟩ := redR_mem.1 h2
              refine ⟨k, hk, ?_⟩
              rw [e]
              show hd.length ≤ 40
              rcases h3 with ⟨-, a, -, -, rfl⟩ | ⟨-, rfl⟩
              · simp
              · exact (few17_head HFW.out).2 k hk
            have HBR := Lib.hid hBR
            clear hBR
            go_wp2_with (go_at_call 33; (with_reducible refine (reduct_sl HRR.out HS9.out.st.prog HS9.out.set HV.out HSET.out (by omega)).mono ?_); rintro e wR ⟨aR, cR, rfl, hru, hbR⟩; have HSR := Lib.hid (HS9.out.on hbR); have HDVR := Lib.hid (HDV9.out.below hbR); have kxR := HSR.out.st.box.cell; have HRU := Lib.hid hru; clear hru hbR)
            clear kx9
            go_loopw [24, 143] (fun s i wx => El4Rel m RR wR s i wx) (fun _ i _ => RR.length - (intOf i).toNat)
            case atStart => exact ⟨0, [], Nat.zero_le _, rfl, RowR.nil _ _, by simp [singM], fun r hr => by simp at hr, Below.refl _ _⟩
            case round =>
              obtain ⟨j, Lq, hj, rfl, hrow, hmap, hone, hb⟩ := hrel
              obtain ⟨asg, cs, rfl⟩ := hrow.slen
              have hLq : Lq.length = j := by
                have := congrArg List.length hmap
                simp only [singM, List.length_map, List.length_take] at this
                omega
              have HLQ := Lib.hid hLq
              have HROW := Lib.hid hrow
              have HMAP := Lib.hid hmap
              have HONE := Lib.hid hone
              have HB := Lib.hid hb
              clear hLq hrow hmap hone
              by_cases hlt : j < RR.length
              · obtain ⟨a1', c1', e1, -, -, -, hcR⟩ := HRU.out.form
                simp only [Value.slice.injEq] at e1
                obtain ⟨rfl, -, rfl⟩ := e1
                obtain ⟨b, off, rfl, hbl, hc⟩ := hcR (by omega)
                obtain ⟨vh, vb, vw, ⟨r0, r1, r2, r3, r4, r5⟩, hsl⟩ := hc j hlt
                have HST := Lib.hid (sing_take (m := m) hlt)
                have HOT : Hid ((headsM m (ixR RR j)).length ≤ 1 → oneM m (RR.take (j + 1))) := Lib.hid (fun h1 => one_take hlt HONE.out h1)
                have hh40 : (ixR RR j).head.length ≤ 40 := let ⟨_, _, h⟩ := HBR.out j hlt; h
                obtain ⟨r, hr⟩ : ∃ r, ixR RR j = r := ⟨_, rfl⟩
                rw [hr] at r0 r2 r3 hsl HST HOT hh40
                obtain ⟨x1, y1, rfl, -, g1, -, -⟩ := hsl.head.form
                obtain ⟨x2, y2, rfl, -, g2, -, -⟩ := hsl.body.form
                obtain ⟨x3, y3, rfl, -, g3, -, -⟩ := hsl.wts.form
                have kk := bcell hb b
                have q0 := (kk _ hbl).trans r0
                have q1 := (kk _ hbl).trans r1
                have q2 := (kk _ hbl).trans r2
                have q3 := (kk _ hbl).trans r3
                have q4 := (kk _ hbl).trans r4
                have q5 := (kk _ hbl).trans r5
                have HSL := Lib.hid hsl
                clear kk r0 r1 r2 r3 r4 r5 hc hsl hr hcR hb
                go_upto_region 35 with fail
                have hal := bal (Below.refl wr.heap.size wr) (.cells #[.bool r.choice, .slice x1 r.head.length y1, .bool r.sum, .int .i64 r.bound, .slice x2 r.body.length y2, .slice x3 r.w.length y3] 60)
                have HRB := Lib.hid (Blk.new wr [.bool r.choice, .slice x1 r.head.length y1, .bool r.sum, .int .i64 r.bound, .slice x2 r.body.length y2, .slice x3 r.w.length y3] 60)
                have kr1 := HRB.out.cell
                have hrbl := HRB.out.lt
                have HAL := Lib.hid hal
                clear hal q0 q1 q2 q3 q4 q5
                generalize wr.alloc (.cells #[.bool r.choice, .slice x1 r.head.length y1, .bool r.sum, .int .i64 r.bound, .slice x2 r.body.length y2, .slice x3 r.w.length y3] 60) = W1 at *
                obtain ⟨rb, hrb⟩ : ∃ rb, wr.heap.size = rb := ⟨_, rfl⟩
                have HRBE := Lib.hid hrb
                rw [hrb] at HRB kr1 hrbl
                rw [hrb]
                clear hrb
                generalize wr = wq at *
                go_wp2_with fail
                go_loopw [27, 150] (fun s i wx => El5Rel m r.head W1 s i wx) (fun _ i _ => r.head.length - (intOf i).toNat)
                case atStart => exact ⟨0, Nat.zero_le _, rfl, by simp only [List.take_zero, List.filter_nil]; exact OwnL.nil _ _, Below.refl _ _⟩
                case round =>
                  obtain ⟨t, ht, rfl, ho, hb⟩ := hrel
                  have HB2 := Lib.hid hb
                  have HBA : Hid (Below wR.heap.size wR wr) := Lib.hid (bon (bon HB.out HAL.out) hb)
                  by_cases hlt2 : t < r.head.length
                  · obtain ⟨ah, ch, rfl⟩ := ho.slen
                    obtain ⟨b5, o5, rfl, hb5, hc5⟩ := (HSL.out.head.below HBA.out).at hlt2
                    have hfl : ((r.head.take t).filter fun a => decide (a ∈ m)).length ≤ 40 := Nat.le_trans (List.length_filter_le _ _) (by rw [List.length_take]; omega)
                    have HTK := Lib.hid (heads_take (m := m) hlt2)
                    have HAI : Hid (InI (ix r.head t)) := Lib.hid (HSL.out.head.2 t)
                    have HO := Lib.hid ho
                    have HIM := Lib.hid (HSR.out.set.below HBA.out)
                    have hz2 := HB2.out.size
                    generalize (r.head.take t).filter (fun a => decide (a ∈ m)) = D at *
                    generalize ix r.head t = a at *
                    clear hb ho
                    cases hin : decide (a ∈ m) with
                    | false =>
                      have HIN := Lib.hid hin
                      rw [if_neg (of_decide_eq_false hin), List.append_nil] at HTK
                      clear hin
                      go_wp2_with (go_at_call 29; (with_reducible refine (in1_call HIN.out HAI.out HIM.out).mono ?_); rintro e w7 ⟨rfl, hb7⟩; have HO7 := Lib.hid (HO.out.below hb7); have HB7 := Lib.hid (bon HB2.out hb7); clear hb7)
                      first
                        | (go_roundw
                           case rel => (exact ⟨t + 1, hlt2, by go_num, by rw [HTK.out]; exact HO7.out, HB7.out⟩)
                           case measure => (simp [intOf]; omega))
                        | (refine ⟨?_, ?_⟩
                           · (exact ⟨t + 1, hlt2, by go_num, by rw [HTK.out]; exact HO7.out, HB7.out⟩)
                           · (simp [intOf]; omega))
                    | true =>
                      have HIN := Lib.hid hin
                      rw [if_pos (of_decide_eq_true hin)] at HTK
                      clear hin
                      go_upto_region 40 with (go_at_call 29; (with_reducible refine (in1_call HIN.out HAI.out HIM.out).mono ?_); rintro e w7 ⟨rfl, hb7⟩; have HO7 := Lib.hid (HO.out.below hb7); have HB7 := Lib.hid (bon HB2.out hb7); clear hb7)
                      have hz7 := HB7.out.size
                      go_wp2_with (at_builtin; refine wpList_appendO rfl _ _ rfl W1.heap.size w7.heap.size _ D a rfl rfl (HO7.out.below (bal (Below.refl _ _) _)) (Blk.new w7 [.int .i64 a] _) HAI.out (by omega) (by simp; omega) ?_; intro g cap w8 hm8 hg8; have HM8 := Lib.hid hm8; have HB8 : Hid (Below W1.heap.size W1 w8) := Lib.hid (belowO (bal HB7.out _) (HO7.out.below (bal (Below.refl _ _) _)) hg8 (by simp; omega)); clear hm8 hg8)
                      first
                        | (go_roundw
                           case rel => (exact ⟨t + 1, hlt2, by go_num, by rw [HTK.out]; exact HM8.out, HB8.out⟩)
                           case measure => (simp [intOf]; omega))
                        | (refine ⟨?_, ?_⟩
                           · (exact ⟨t + 1, hlt2, by go_num, by rw [HTK.out]; exact HM8.out, HB8.out⟩)
                           · (simp [intOf]; omega))
                  · obtain rfl : t = r.head.length := by omega
                    have hta : (r.head.take r.head.length).filter (fun a => decide (a ∈ m)) = headsM m r := by rw [List.take_length]; rfl
                    rw [hta] at ho
                    obtain ⟨ah, ch, rfl⟩ := ho.slen
                    have HO := Lib.hid ho
                    have HRB2 := Lib.hid (HRB.out.below hb)
                    have kr2 := HRB2.out.cell
                    have hrb2 := HRB2.out.lt
                    have kf2 := HRB2.out.free
                    have HBQ : Hid (Below wq.heap.size wq wr) := Lib.hid (bon HAL.out hb)
                    clear hta ho hb kr1
                    by_cases hh1 : 1 < (headsM m r).length
                    · have HE9' := Lib.hid (HSR.out.st.on HBA.out)
                      go_wp2_with (go_at_call 12; (with_reducible refine (awake41_any _).mono ?_); rintro e w9 ⟨rfl, hb9⟩; have HE9 := Lib.hid (HE9'.out.on hb9); clear hb9)
                      go_ret
                      exact ⟨rfl, HE9.out.below⟩
                    · go_upto_region 45 with fail
                      have HB3 : Hid (Below wq.heap.size wq (wr.setCell ⟨rb, 1, none⟩ (.slice ah (headsM m r).length ch))) := Lib.hid (HBQ.out.setCell (by show wq.heap.size ≤ rb; have := HRBE.out; omega) _)
                      have HRB3 := Lib.hid (HRB2.out.set 1 (.slice ah (headsM m r).length ch))
                      have kr3 := HRB3.out.cell
                      have HO3 : Hid (OwnL W1.heap.size (wr.setCell ⟨rb, 1, none⟩ (.slice ah (headsM m r).length ch)) (.slice ah (headsM m r).length ch) (headsM m r)) := Lib.hid (HO.out.same fun i h1 _ _ => Below.heap_setCell _ _ _ _ (by have := hrbl; show i ≠ rb; omega))
                      simp only [List.set_cons_zero, List.set_cons_succ] at kr3
                      clear kr2 kf2 hrb2
                      generalize wr.setCell ⟨rb, 1, none⟩ (.slice ah (headsM m r).length ch) = W3 at *
                      have HB4 : Hid (Below wR.heap.size wR W3) := Lib.hid (bon HB.out HB3.out)
                      have hzR := HB4.out.size
                      have HW1R : Hid (wR.heap.size ≤ W1.heap.size) := Lib.hid (Nat.le_trans HB.out.size HAL.out.size)
                      have HRX : Hid (RuleX wR (W3.alloc (.cells #[.bool r.choice, .slice ah (headsM m r).length ch, .bool r.sum, .int .i64 r.bound, .slice x2 r.body.length y2, .slice x3 r.w.length y3] 60)) (cutM m r, .slice ah (headsM m r).length ch, .slice x2 r.body.length y2, .slice x3 r.w.length y3)) := Lib.hid ⟨.own ((((HO3.out.mono HW1R.out).below (bal (Below.refl _ _) _)).qrow (by omega))) (by show (headsM m r).length ≤ _; omega), .old HSL.out.body, .old HSL.out.wts, HSL.out.bound⟩
                      have HOT2 := Lib.hid (HOT.out (by omega))
                      have HLL : Hid (Lq.length + 1 ≤ 1000000) := Lib.hid (by have := HLQ.out; omega)
                      go_wp2_with (at_builtin; refine wpList_appendRR rfl _ _ rfl wR (.slice asg Lq.length cs) Lq (cutM m r, .slice ah (headsM m r).length ch, .slice x2 r.body.length y2, .slice x3 r.w.length y3) rfl ((HROW.out.below HB3.out).below (bal (Below.refl _ _) _)) W3.heap.size 1 rfl (Blk.new W3 [.bool r.choice, .slice ah (headsM m r).length ch, .bool r.sum, .int .i64 r.bound, .slice x2 r.body.length y2, .slice x3 r.w.length y3] _) HRX.out HLL.out (bal HB4.out _) ?_; intro g cap w8 hm8 hg8 hb8; have HM8 := Lib.hid hm8; have HB8 := Lib.hid hb8; clear hm8 hg8 hb8)
                      first
                        | (go_roundw
                           case rel => (exact ⟨j + 1, Lq ++ [(cutM m r, .slice ah (headsM m r).length ch, .slice x2 r.body.length y2, .slice x3 r.w.length y3)], hlt, by go_num, HM8.out, by rw [List.map_append, HMAP.out, HST.out]; rfl, HOT2.out, HB8.out⟩)
                           case measure => (simp [intOf]; omega))
                        | (refine ⟨?_, ?_⟩
                           · (exact ⟨j + 1, Lq ++ [(cutM m r, .slice ah (headsM m r).length ch, .slice x2 r.body.length y2, .slice x3 r.w.length y3)], hlt, by go_num, HM8.out, by rw [List.map_append, HMAP.out, HST.out]; rfl, HOT2.out, HB8.out⟩)
                           · (simp [intOf]; omega))
              · obtain rfl : j = RR.length := by omega
                have hone := HONE.out
                have hmap := HMAP.out
                rw [List.take_length] at hone hmap
                have HDF : Hid (definiteB p.n (singM m RR) = true) := Lib.hid (by rw [← HRR.out]; exact sing_def HV.out (by rw [HRR.out]; exact hone) (by rw [HRR.out]; exact hRl))
                have hLq := HLQ.out
                have hru := HROW.out.rules hb (by omega)
                clear hLq
                rw [hmap] at hru
                have HRU2 := Lib.hid hru
                have HSE := Lib.hid (HSR.out.on hb)
                have kxE := HSE.out.st.box.cell
                have HDE2 := Lib.hid (HDVR.out.below hb)
                have HMQ : Hid (∀ M, IsLeast (singM m RR) M → inSub DV M = true ∧ inSub M DV = true) := Lib.hid fun M hM => by
                  rw [← HRR.out] at hM hone
                  have key := fun a => least_cut HV.out HSET.out hone hM a
                  rw [HLR.out] at key
                  rw [show atomsY (XP.whys ⟨L, R⟩) = DV from HDE.out] at key
                  exact ⟨inSub_iff.2 fun a ha => (key a).2 ha, inSub_iff.2 fun a ha => (key a).1 ha⟩
                clear hone hmap hru hb kxR
                go_wp2_with (first
                  | (go_at_call 12; (with_reducible refine (awake41_any _).mono ?_); rintro e w9 ⟨rfl, hb9⟩; have HE9 := Lib.hid (HSL9.out.on hb9); clear hb9)
                  | (go_at_call 29; (with_reducible refine (in2_call HIA.out (HDE2.out.below HBL.out) HML.out).mono ?_); rintro e w10 ⟨rfl, rfl⟩)
                  | (go_at_call 29; (with_reducible refine (in2_call HIB.out HML.out (HDE2.out.below HBL.out)).mono ?_); rintro e w10 ⟨rfl, rfl⟩)
                  | (go_at_call 34; (with_reducible refine (least_intQ _ (singM m RR) p.n _ HRU2.out HDF.out).mono ?_); rintro e wL ⟨M, ao, co, rfl, hqM, hlM, hsM, hrM, hlenM, hbL⟩; have HIA := Lib.hid (HMQ.out M hlM).1; have HIB := Lib.hid (HMQ.out M hlM).2; have HML := Lib.hid (hqM.ints (by omega)); have HBL := Lib.hid hbL; have HSL9 := Lib.hid (HSE.out.st.on hbL); clear hqM hlM hsM hrM hlenM hbL))
                go_ret
                exact ⟨rfl, HE9.out.below⟩
theorem eleast_law {W : World} {vp : Value} {p : GP} (hP : ProgIs W vp p) (y : Int) (_hy : (Lit.int .u16 y).wf = true) {vx : Value} {x : XP} (hX : ExplIs W vx x) :
    Calls Tryz.prog 7 #[vp, .int .u16 y, vx] W fun e W' => e = .returned (.bool true) ∧ Below W.heap.size W W' :=
  eleast_any vp vx p y x W hP hX
end Go.Proofs.YtfajkmmmmmfhiaaGreatDoor
