/- My texts Uw41, Frame, merged. -/
import Derived.Test.YtfajkmmmmmfhiaaGreatDoorM19
import Derived.Test.YtfajkmmmmmfhiaaGreatDoorM15
import Derived.Test.YtfajkmmmmmfhiaaGreatDoorM13
import Derived.Test.YtfajkmmmmmfhiaaGreatDoorM11
import Derived.Test.YtfajkmmmmmfhiaaGreatDoorM10
import Derived.Test.YtfajkmmmmmfhiaaGreatDoorM09
import Derived.Test.YtfajkmmmmmfhiaaGreatDoorM08
import Derived.Test.YtfajkmmmmmfhiaaGreatDoorM07
import Derived.Test.YtfajkmmmmmfhiaaGreatDoorM06
import Derived.Test.YtfajkmmmmmfhiaaGreatDoorM05
import Derived.Test.YtfajkmmmmmfhiaaGreatDoorM04
import Derived.Test.YtfajkmmmmmfhiaaGreatDoorM03
import Derived.Test.YtfajkmmmmmfhiaaGreatDoorM00
import Derived.Test.YtfajkmmmmmfhiaaGreatDoorProg
import Derived.WalkKit
import Derived.Lib.Hide
import Derived.Deep.QuietTactic
import Derived.BigQuiet
import Derived.WalkSpells
import Derived.Lib.SliceRun
import Derived.MapKept
import Derived.Maps.OwnSet
import Derived.Maps.OwnOps
import Derived.Test.YtfajkmmmmmfhiaaGreatDoorM02
import Derived.Test.YtfajkmmmmmfhiaaGreatDoorM01
import Derived.Deep.AppendLies
import Derived.Lib.Bytealg
import Derived.Deep.DeepCutAuto
import Derived.Laws.EntriesVeiled
import Derived.Deep.RegionWith
import Derived.Deep.OwnRows
import Derived.RangeFuncNested
import Derived.RangeFuncBound
import Derived.RangeFuncCalls
import Derived.RangeFuncLeaves
import Derived.OwnWalkIn
import Derived.TacticsInMore
import Derived.LoopNIn
import Derived.LoopIn
import Derived.Stop.RegionWithIn
import Derived.Shelf.Abstract
import Derived.Deep.LoopGhost
import Derived.Deep.DrawnRows
import Derived.Shelf.Sort.Plain
import Derived.Shelf.Slices.CompactI
import Derived.Shelf.Slices.In.SortNone
import Derived.Shelf.Strconv.Itoa3
import Derived.Shelf.Strings.BuilderK
import Derived.Shelf.Slices.SearchI
import Derived.Shelf.Slices.Empties
import Derived.Deep.AppendSrc
import Derived.Lib.SlicesCompact
import Derived.Sort.OwnSortedInts
import Derived.Test.YtfajkmmmmmfhiaaGreatDoorM12
import Derived.Sort.QuietThIn
import Derived.Maps.RangeWalk
import Derived.RangeFuncBox
import Derived.Maps.OwnIn
import Derived.Lib.RowBridge
import Derived.Test.YtfajkmmmmmfhiaaGreatDoorM14
import Derived.Deep.DeepMust
import Derived.ProofKit
import Derived.OpenShut
import Derived.ChangeArms
import Derived.SizedLaws
import Derived.Test.YtfajkmmmmmfhiaaGreatDoorM18
import Derived.Test.YtfajkmmmmmfhiaaGreatDoorM16
import Derived.Test.YtfajkmmmmmfhiaaGreatDoorM17
import Derived.Lib.ItoaNum
import Derived.Deep.RegionHeld3
import Derived.Laws.ResultCell
import Derived.Laws.Rows
import Derived.Deep.RegionLaw
import Derived.Sort.CutIn

namespace Go.Proofs.YtfajkmmmmmfhiaaGreatDoor
open Go.RowKit
structure Sv41 (w : World) (p : GP) (vn vs vr vm vS : Value) (m : List Int) (xb : Nat) (v1 v2 : Value) (L : List WY) (R : List Int) (wb : Nat) (y : WY) (W : World) : Prop where
  st : E41 w p vn vs vr vm W
  set : Ints W vS m
  xbx : Blk W xb [v1, v2] 30
  xis : ExplIs W (.agg #[v1, v2]) ⟨L, R⟩
  whs : WhysIs W v1 L
  wbx : Blk W wb [.int .i64 y.atom, .int .i64 y.rule, .int .i64 y.level] 49
theorem Sv41.on {w W W' : World} {p : GP} {vn vs vr vm vS : Value} {m : List Int} {xb : Nat} {v1 v2 : Value} {L : List WY} {R : List Int} {wb : Nat} {y : WY} (h : Sv41 w p vn vs vr vm vS m xb v1 v2 L R wb y W) (hb : Below W.heap.size W W') : Sv41 w p vn vs vr vm vS m xb v1 v2 L R wb y W' :=
  ⟨h.st.on hb, h.set.below hb, h.xbx.below hb, h.xis.below hb, h.whs.below hb, h.wbx.below hb⟩
set_option maxHeartbeats 16000000 in
set_option maxRecDepth 100000 in
theorem esupport_any (v : Value) (p : GP) (bits at' : Int) (w : World) (h : ProgIs w v p) (hat : 0 ≤ at' ∧ at' ≤ 255) :
    Calls Tryz.prog 5 #[v, .int .u16 bits, .int .u8 at'] w fun e w' => e = .returned (.bool true) ∧ Below w.heap.size w w' := by
  have h0 := h
  obtain ⟨vn, vs, vr, vm, rfl, hps⟩ := h
  have hIn := hps.n
  unfold InI at hIn
  obtain ⟨a4, c4, rfl, -, hl4, -, hcr⟩ := hps.rules.form
  obtain ⟨a0, c0, rfl, -⟩ := id hps.names.form
  obtain ⟨a3, c3, rfl, -⟩ := id hps.shown.form
  obtain ⟨a5, c5, rfl, -⟩ := id hps.min.form
  have HCR := Lib.hid hcr
  have HPS := Lib.hid hps
  have HE0 := Lib.hid (E41.start h0)
  have kx0 := HE0.out.box.cell
  clear h0 hps hcr
  go_enter Tryz.func5, Tryz.ntmps5
  go_upto_region 1 with fail
  generalize w.alloc (.cells #[.int .i64 p.n, .slice a0 p.names.length c0, .slice a3 p.shown.length c3, .slice a4 p.rules.length c4, .slice a5 p.min.length c5] 27) = W0 at *
  cases hf : few17B p with
  | false =>
    have HFW := Lib.hid hf
    clear hf
    go_wp2_with (first | (go_at_call 12; (with_reducible refine (awake41_any _).mono ?_); rintro e w9 ⟨rfl, hb9⟩; have HE9 := Lib.hid (HE1.out.on hb9); clear hb9) | (go_at_call 11; (with_reducible refine (few17_any _ p _ HE0.out.prog).mono ?_); rintro e w1 ⟨h1, hb1⟩; rw [HFW.out] at h1; subst h1; have HE1 := Lib.hid (HE0.out.on hb1); have kx1 := HE1.out.box.cell; clear hb1))
    go_ret
    exact ⟨rfl, HE9.out.below⟩
  | true =>
    have hn12 := few17_n hf
    have HFW := Lib.hid hf
    clear hf
    by_cases hv : validE p = 0
    case neg =>
      have hveq : (validE p != 0) = true := by simp [hv]
      clear hv
      go_wp2_with (first | (go_at_call 12; (with_reducible refine (awake41_any _).mono ?_); rintro e w9 ⟨rfl, hb9⟩; have HE9 := Lib.hid (HE2.out.on hb9); clear hb9) | (go_at_call 27; (with_reducible refine (valid_any _ p w1 HE1.out.prog).mono ?_); rintro e w2 ⟨rfl, hb2⟩; have HE2 := Lib.hid (HE1.out.on hb2); have kx2 := HE2.out.box.cell; clear hb2) | (go_at_call 11; (with_reducible refine (few17_any _ p _ HE0.out.prog).mono ?_); rintro e w1 ⟨h1, hb1⟩; rw [HFW.out] at h1; subst h1; have HE1 := Lib.hid (HE0.out.on hb1); have kx1 := HE1.out.box.cell; clear hb1))
      go_ret
      exact ⟨rfl, HE9.out.below⟩
    have hn0 := (validP hv).n
    have hrl := (validP hv).rules
    have hveq : (validE p != 0) = false := by simp [hv]
    have HV := Lib.hid hv
    clear hv
    go_wp2_with (first | (go_at_call 27; (with_reducible refine (valid_any _ p w1 HE1.out.prog).mono ?_); rintro e w2 ⟨rfl, hb2⟩; have HE2 := Lib.hid (HE1.out.on hb2); have kx2 := HE2.out.box.cell; clear hb2) | (go_at_call 11; (with_reducible refine (few17_any _ p _ HE0.out.prog).mono ?_); rintro e w1 ⟨h1, hb1⟩; rw [HFW.out] at h1; subst h1; have HE1 := Lib.hid (HE0.out.on hb1); have kx1 := HE1.out.box.cell; clear hb1))
    clear kx0 kx1 kx2
    go_loopw [37] (fun i wx => Sv1Rel w p (.slice a0 p.names.length c0) (.slice a3 p.shown.length c3) (.slice a4 p.rules.length c4) (.slice a5 p.min.length c5) i wx) (fun i _ => p.rules.length - (intOf i).toNat)
    case atStart => exact ⟨0, Nat.zero_le _, rfl, fun k hk => absurd hk (Nat.not_lt_zero _), HE2.out⟩
    case round =>
      obtain ⟨j, hj, rfl, hns, hst⟩ := hrel
      have HNS := Lib.hid hns
      have HE3 := Lib.hid hst
      clear hns hst
      by_cases hlt : j < p.rules.length
      · obtain ⟨b, off, rfl, hbl, hc⟩ := HCR.out (by omega)
        obtain ⟨vh, vb, vw, ⟨r0, r1, r2, r3, r4, r5⟩, hsl⟩ := hc j hlt
        obtain ⟨x1, y1, rfl, -, g1, -, -⟩ := hsl.head.form
        obtain ⟨x2, y2, rfl, -, g2, -, -⟩ := hsl.body.form
        obtain ⟨x3, y3, rfl, -, g3, -, -⟩ := hsl.wts.form
        have kk := bcell HE3.out.below b
        have q0 := (kk _ hbl).trans r0
        have q1 := (kk _ hbl).trans r1
        have q2 := (kk _ hbl).trans r2
        have q3 := (kk _ hbl).trans r3
        have q4 := (kk _ hbl).trans r4
        have q5 := (kk _ hbl).trans r5
        clear kk r0 r1 r2 r3 r4 r5 hc hsl
        cases hs : (ixR p.rules j).sum with
        | true =>
          rw [hs] at q2
          clear hs
          have HE4 := Lib.hid (HE3.out)
          go_wp2_with (go_at_call 12; (with_reducible refine (awake41_any _).mono ?_); rintro e w9 ⟨rfl, hb9⟩; have HE9 := Lib.hid ((HE4.out.on (bal (Below.refl _ _) _)).on hb9); clear hb9)
          go_ret
          exact ⟨rfl, HE9.out.below⟩
        | false =>
          rw [hs] at q2
          have HN1 : Hid (∀ k, k < j + 1 → (ixR p.rules k).sum = false) := Lib.hid fun k hk => by
            rcases Nat.lt_succ_iff_lt_or_eq.1 hk with h1 | rfl
            · exact HNS.out k h1
            · exact hs
          clear hs
          go_wp2_with fail
          first
            | (go_roundw
               case rel => (exact ⟨j + 1, hlt, by go_num, HN1.out, HE3.out.on (bal (Below.refl _ _) _)⟩)
               case measure => (simp [intOf]; omega))
            | (refine ⟨?_, ?_⟩
               · (exact ⟨j + 1, hlt, by go_num, HN1.out, HE3.out.on (bal (Below.refl _ _) _)⟩)
               · (simp [intOf]; omega))
      · obtain rfl : j = p.rules.length := by omega
        have kx3' := HE3.out.box.cell
        obtain ⟨m, hm⟩ : ∃ m, subL bits p.n.toNat = m := ⟨_, rfl⟩
        have hset := subL_set19 bits hn0.1
        have hml : m.length ≤ 12 := by have := subL_len bits p.n.toNat; rw [hm] at this; omega
        rw [hm] at hset
        have HM := Lib.hid hm
        have HSET := Lib.hid hset
        clear hm hset
        cases hmod : modelsB p m with
        | false =>
          have HE : Hid (xE p m = 410) := Lib.hid (xE_no HV.out HSET.out hmod)
          clear hmod
          go_wp2_with (first
            | (go_at_call 12; (with_reducible refine (awake41_any _).mono ?_); rintro e w9 ⟨rfl, hb9⟩; have HE9 := Lib.hid ((HE4.out.on (bal (Below.refl _ _) _)).on hb9); clear hb9)
            | (go_at_call 14; (with_reducible refine (expl_no HE.out HE33.out.prog HI3.out).mono ?_); rintro e w4 ⟨a1, c1, a2, c2, rfl, hb4⟩; have HE4 := Lib.hid (HE33.out.on hb4); have kx4 := HE4.out.box.cell; clear hb4)
            | (go_at_call 28; (with_reducible refine (subset19_int p.n bits ⟨hn0.1, by omega⟩ wr).mono ?_); rintro e w3 ⟨vS, rfl, hq, hb3⟩; rw [HM.out] at hq; obtain ⟨aS, cS, rfl⟩ := hq.slen; have HE33 := Lib.hid (HE3.out.on hb3); have kx33 := HE33.out.box.cell; have HI3 := Lib.hid (hq.ints (by omega)); clear hb3 hq))
          go_ret
          exact ⟨rfl, HE9.out.below⟩
        | true =>
          have HE : Hid (xE p m = 0) := Lib.hid (xE_of HV.out HSET.out hmod)
          clear hmod
          obtain ⟨L, R, hLR⟩ : ∃ L R, explX p m = ⟨L, R⟩ := ⟨_, _, rfl⟩
          have hck : chkX p m ⟨L, R⟩ = true := by rw [← hLR]; exact expl_valid HV.out HSET.out
          have hll := chk_len hck
          dsimp only at hll
          have HLR := Lib.hid hLR
          have HCK := Lib.hid hck
          have HL5 : Hid ((⟨L, R⟩ : XP).whys.length ≤ 500) := Lib.hid (by show L.length ≤ 500; omega)
          clear hLR hck
          go_upto_region 11 with (first
            | (go_at_call 14; (with_reducible refine (expl_ok HE.out HLR.out HE33.out.prog HI3.out).mono ?_); rintro e w4 ⟨a1, c1, a2, c2, rfl, hY4, hR4, hb4⟩; have HE4 := Lib.hid (HE33.out.on hb4); have kx4 := HE4.out.box.cell; have HI4 := Lib.hid (HI3.out.below hb4); have HY4 := Lib.hid (hY4.whys (by omega)); have HR4 := Lib.hid (hR4.ints (by omega)); clear hb4 hY4 hR4)
            | (go_at_call 28; (with_reducible refine (subset19_int p.n bits ⟨hn0.1, by omega⟩ wr).mono ?_); rintro e w3 ⟨vS, rfl, hq, hb3⟩; rw [HM.out] at hq; obtain ⟨aS, cS, rfl⟩ := hq.slen; have HE33 := Lib.hid (HE3.out.on hb3); have kx33 := HE33.out.box.cell; have HI3 := Lib.hid (hq.ints (by omega)); clear hb3 hq))
          have hal := bal (Below.refl w4.heap.size w4) (.cells #[.slice a1 L.length c1, .slice a2 R.length c2] 30)
          have HE5 := Lib.hid (HE4.out.on hal)
          have HI5 := Lib.hid (HI4.out.below hal)
          have HY5 := Lib.hid (HY4.out.below hal)
          have HR5 := Lib.hid (HR4.out.below hal)
          have HXB5 := Lib.hid (Blk.new w4 [.slice a1 L.length c1, .slice a2 R.length c2] 30)
          have kx5 := HE5.out.box.cell
          have ky5 := HXB5.out.cell
          have hxb := HXB5.out.lt
          clear hal kx3' kx33 kx4
          generalize w4.alloc (.cells #[.slice a1 L.length c1, .slice a2 R.length c2] 30) = W5 at *
          generalize w4.heap.size = xb at *
          by_cases h0 : L.length = 0
          · have hl0 : ((L.length : Int) == 0) = true := by simp [h0]
            clear h0
            go_wp2_with (go_at_call 12; (with_reducible refine (awake41_any _).mono ?_); rintro e w9 ⟨rfl, hb9⟩; have HE9 := Lib.hid (HE5.out.on hb9); clear hb9)
            go_ret
            exact ⟨rfl, HE9.out.below⟩
          have hl0 : ((L.length : Int) == 0) = false := by simp only [beq_eq_false_iff_ne, ne_eq]; omega
          obtain ⟨t, htm⟩ : ∃ t, at'.tmod (L.length : Int) = t := ⟨_, rfl⟩
          have ht1 : 0 ≤ t := by rw [← htm]; exact Int.tmod_nonneg _ hat.1
          have ht2 : t < L.length := by rw [← htm]; exact Int.tmod_lt_of_pos _ (by omega)
          obtain ⟨k, rfl⟩ : ∃ k : Nat, t = k := ⟨t.toNat, by omega⟩
          have hkL : k < L.length := by omega
          clear ht1 ht2
          go_upto_region 13 with fail
          obtain ⟨a1', c1', e1, -, -, -, hcY⟩ := HY5.out.form
          simp only [Value.slice.injEq] at e1
          obtain ⟨rfl, -, rfl⟩ := e1
          obtain ⟨bY, oY, rfl, hbY, hcc⟩ := hcY (by omega)
          obtain ⟨k0, k1, k2⟩ := hcc k hkL
          obtain ⟨y, hy⟩ : ∃ y, ixY L k = y := ⟨_, rfl⟩
          rw [hy] at k0 k1 k2
          have HYM : Hid (y ∈ L) := Lib.hid (by rw [← hy]; exact ixY_mem0 hkL)
          clear hy hcY hcc
          go_region
          have hal := (bal (Below.refl W5.heap.size W5) (.cells #[.int .i64 y.atom, .int .i64 y.rule, .int .i64 y.level] 49)).drew
          have HS6 : Hid (Sv41 w p (.slice a0 p.names.length c0) (.slice a3 p.shown.length c3) (.slice a4 p.rules.length c4) (.slice a5 p.min.length c5) (.slice aS m.length cS) m xb (.slice (some ⟨bY, oY, none⟩) L.length c1) (.slice a2 R.length c2) L R W5.heap.size y (W5.alloc (.cells #[.int .i64 y.atom, .int .i64 y.rule, .int .i64 y.level] 49)).drew) := Lib.hid ⟨HE5.out.on hal, HI5.out.below hal, HXB5.out.below hal, ⟨_, _, rfl, HY5.out.below hal, HR5.out.below hal⟩, HY5.out.below hal, (Blk.new _ _ _).drew⟩
          have kx6 := HS6.out.st.box.cell
          have ky6 := HS6.out.xbx.cell
          have kw6 := HS6.out.wbx.cell
          have hwb := HS6.out.wbx.lt
          clear hal kx5 ky5 k0 k1 k2
          generalize (W5.alloc (.cells #[.int .i64 y.atom, .int .i64 y.rule, .int .i64 y.level] 49)).drew = W6 at *
          generalize W5.heap.size = wb at *
          have HVAL : Hid (ValX p m ⟨L, R⟩) := Lib.hid (chk_val HV.out HSET.out HCK.out)
          have HYT : Hid (InI y.atom) := Lib.hid (HS6.out.whs.2 y HYM.out).1
          have HYA : Hid (y.atom ∈ atomsY (XP.whys ⟨L, R⟩)) := Lib.hid (List.mem_map.2 ⟨y, HYM.out, rfl⟩)
          go_upto_region 18 with (first
            | (go_at_call 30; (with_reducible refine (redSet_any _ p.n S _ HIS8.out).mono ?_); rintro e w9 ⟨e1, rfl⟩; rw [HSS.out.set] at e1; subst e1)
            | (go_at_call 29; (with_reducible refine (in1_call HIN.out HYT.out HIS7.out).mono ?_); rintro e w8 ⟨rfl, hb8⟩; have HS8 := Lib.hid (HS7.out.on hb8); have HIS8 := Lib.hid (HIS7.out.below hb8); have kx8 := HS8.out.st.box.cell; clear hb8)
            | (go_at_call 16; (with_reducible refine (support_ok HE.out HCK.out HYT.out HYA.out HS6.out.st.prog HS6.out.set HS6.out.xis HL5.out).mono ?_); rintro e w7 ⟨aT, cT, S, rfl, hq, ⟨hS1, hS2⟩, hb7⟩; have HS7 := Lib.hid (HS6.out.on hb7); have HSS := Lib.hid (supS_of HSET.out HVAL.out HYA.out hS1 hS2); have HIN := Lib.hid (decide_eq_true HSS.out.has); have HIS7 := Lib.hid (hq.ints (by have := sub_len (hS1.imp fun h => Int.ne_of_lt h) (fun b hb => ((hS2 b).1 hb).in HYA.out); simp only [atomsY, List.length_map] at this; omega)); have kx7 := HS7.out.st.box.cell; have ky7 := HS7.out.xbx.cell; have kw7 := HS7.out.wbx.cell; clear hq hS1 hS2 hb7))
          have hal := bal (Below.refl w8.heap.size w8) (.cells #[.int .i64 p.n, .slice a0 p.names.length c0, .slice a3 p.shown.length c3, .slice a4 p.rules.length c4, .slice a5 p.min.length c5] 27)
          have HQ9 := Lib.hid (Blk.new w8 [.int .i64 p.n, .slice a0 p.names.length c0, .slice a3 p.shown.length c3, .slice a4 p.rules.length c4, .slice a5 p.min.length c5] 27)
          have kq9 := HQ9.out.cell
          have kf9 := HQ9.out.free
          have hql := HQ9.out.lt
          have HAL := Lib.hid hal
          clear hal kx6 ky6 kw6 kx7 ky7 kw7 kx8
          generalize w8.alloc (.cells #[.int .i64 p.n, .slice a0 p.names.length c0, .slice a3 p.shown.length c3, .slice a4 p.rules.length c4, .slice a5 p.min.length c5] 27) = W9 at *
          go_upto_region 19 with fail
          have HB10 : Hid (Below w8.heap.size w8 (W9.setCell ⟨w8.heap.size, 3, none⟩ (.slice none 0 0))) := Lib.hid (HAL.out.setCell (Nat.le_refl _) _)
          have hq10 := HQ9.out.set 3 (.slice none 0 0)
          simp only [List.set_cons_zero, List.set_cons_succ] at hq10
          have HQ10 := Lib.hid hq10
          have HS10 := Lib.hid (HS8.out.on HB10.out)
          have ky10 := HS10.out.xbx.cell
          clear hq10 kq9 kf9
          generalize W9.setCell ⟨w8.heap.size, 3, none⟩ (.slice none 0 0) = W10 at *
          go_wp2_with fail
          go_loopw [113] (fun i wx => Sv2Rel p (.slice a0 p.names.length c0) (.slice a3 p.shown.length c3) (.slice a5 p.min.length c5) S L w8 i wx) (fun i _ => L.length - (intOf i).toNat)
          case atStart => exact ⟨0, _, [], Nat.zero_le _, rfl, HQ10.out, RowR.nil _ _, rfl, HB10.out⟩
          case round =>
            obtain ⟨j, vq, Lq, hj, rfl, hqb, hrow, hmap, hb⟩ := hrel
            obtain ⟨aq, cq, rfl⟩ := hrow.slen
            have HQB := Lib.hid hqb
            have HROW := Lib.hid hrow
            have HMAP := Lib.hid hmap
            have HB := Lib.hid hb
            clear hqb hrow hmap
            by_cases hlt : j < L.length
            · have HS11 := Lib.hid (HS8.out.on hb)
              obtain ⟨kz0, kz1, kz2⟩ := (show WhyCells wr bY (oY + j * 3) (ixY L j) from by
                obtain ⟨a6, c6, e5, -, -, -, hc5⟩ := HS11.out.whs.form
                simp only [Value.slice.injEq] at e5
                obtain ⟨e6, -, -⟩ := e5
                obtain ⟨b5, o5, e7, -, hcc5⟩ := hc5 (by omega)
                rw [← e6] at e7
                simp only [Option.some.injEq, Addr.mk.injEq, and_true] at e7
                obtain ⟨rfl, rfl⟩ := e7
                exact hcc5 j hlt)
              obtain ⟨z, hz⟩ : ∃ z, ixY L j = z := ⟨_, rfl⟩
              have HTK := Lib.hid (supRs_take (p := p) (S := S) hlt)
              rw [hz] at kz0 kz1 kz2 HTK
              have HZM : Hid (z ∈ L) := Lib.hid (by rw [← hz]; exact ixY_mem0 hlt)
              have HZT : Hid (InI z.atom) := Lib.hid (HS11.out.whs.2 z HZM.out).1
              have HZA : Hid (z.atom ∈ atomsY (XP.whys ⟨L, R⟩)) := Lib.hid (List.mem_map.2 ⟨z, HZM.out, rfl⟩)
              clear hz hb
              go_upto_region 22 with fail
              have hal := bal (Below.refl wr.heap.size wr) (.cells #[.int .i64 z.atom, .int .i64 z.rule, .int .i64 z.level] 49)
              have HZB := Lib.hid (Blk.new wr [.int .i64 z.atom, .int .i64 z.rule, .int .i64 z.level] 49)
              have kz := HZB.out.cell
              have HS12 := Lib.hid (HS11.out.on hal)
              have HIS12 := Lib.hid ((HIS8.out.below HB.out).below hal)
              have HB12 := Lib.hid (bon HB.out hal)
              have HQB12 := Lib.hid (HQB.out.below hal)
              have HROW12 := Lib.hid (HROW.out.below hal)
              have kx12 := HS12.out.st.box.cell
              have ky12 := HS12.out.xbx.cell
              have kw12 := HS12.out.wbx.cell
              clear hal kz0 kz1 kz2
              generalize wr.alloc (.cells #[.int .i64 z.atom, .int .i64 z.rule, .int .i64 z.level] 49) = W12 at *
              generalize wr.heap.size = zb at *
              by_cases hin : z.atom ∈ S
              · rw [if_pos hin] at HTK
                have HIN2 : Hid (decide (z.atom ∈ S) = true) := Lib.hid (decide_eq_true hin)
                have HZS := Lib.hid hin
                clear hin
                obtain ⟨ri, hri, hrip, -⟩ := HVAL.out.der z HZM.out
                have hzr : z.rule.toNat = ri := by omega
                rw [hzr] at HTK
                obtain ⟨b, off, rfl, hbl, hc⟩ := HCR.out (by omega)
                obtain ⟨vh, vb, vw, ⟨r0, r1, r2, r3, r4, r5⟩, hsl⟩ := hc ri hrip
                obtain ⟨r, hr⟩ : ∃ r, ixR p.rules ri = r := ⟨_, rfl⟩
                rw [hr] at r0 r2 r3 hsl HTK
                obtain ⟨x1, y1, rfl, -, g1, -, -⟩ := hsl.head.form
                obtain ⟨x2, y2, rfl, -, g2, -, -⟩ := hsl.body.form
                obtain ⟨x3, y3, rfl, -, g3, -, -⟩ := hsl.wts.form
                have HSL := Lib.hid (hsl.below HS8.out.st.below)
                have hLq : Lq.length ≤ 1000 := by
                  have := congrArg List.length HMAP.out
                  simp only [supRs, supF, List.length_map] at this
                  have h2 := List.length_filter_le (fun y : WY => decide (y.atom ∈ S)) (L.take j)
                  rw [List.length_take] at h2
                  omega
                have HLL : Hid (Lq.length + 1 ≤ 1000000) := Lib.hid (by omega)
                have HLOW := Lib.hid (HSS.out.low y HYM.out rfl z HZM.out HZS.out)
                have HEA := Lib.hid (HSS.out.each z HZM.out HZS.out)
                clear hr hsl hc hLq hzr
                go_upto_region 24 with (first
                  | (go_at_call 29; (with_reducible refine (in1_call HIN2.out HZT.out HIS12.out).mono ?_); rintro e w13 ⟨rfl, hb13⟩; have HB13 := Lib.hid (bon HB12.out hb13); have HS13 := Lib.hid (HS12.out.on hb13); have HIS13 := Lib.hid (HIS12.out.below hb13); have HZB13 := Lib.hid (HZB.out.below hb13); have HQB13 := Lib.hid (HQB12.out.below hb13); have HROW13 := Lib.hid (HROW12.out.below hb13); have kx13 := HS13.out.st.box.cell; have ky13 := HS13.out.xbx.cell; have kz13 := HZB13.out.cell; clear hb13)
                  | (go_at_call 16; (with_reducible refine (support_ok HE.out HCK.out HZT.out HZA.out HS13.out.st.prog HS13.out.set HS13.out.xis HL5.out).mono ?_); rintro e w14 ⟨aU, cU, T, rfl, hq, ⟨hT1, hT2⟩, hb14⟩; have HB14 := Lib.hid (bon HB13.out hb14); have HS14 := Lib.hid (HS13.out.on hb14); have HIS14 := Lib.hid (HIS13.out.below hb14); have HZB14 := Lib.hid (HZB13.out.below hb14); have HQB14 := Lib.hid (HQB13.out.below hb14); have HROW14 := Lib.hid (HROW13.out.below hb14); have HIT14 := Lib.hid (hq.ints (by have := sub_len (hT1.imp fun h => Int.ne_of_lt h) (fun b hb => ((hT2 b).1 hb).in HZA.out); simp only [atomsY, List.length_map] at this; omega)); have HTS := Lib.hid (HEA.out T hT2); clear hq hT1 hT2 hb14))
                have kx14 := HS14.out.st.box.cell
                have kw14 := HS14.out.wbx.cell
                have kz14 := HZB14.out.cell
                have kk := bcell HS14.out.st.below b
                have q0 := (kk _ hbl).trans r0
                have q1 := (kk _ hbl).trans r1
                have q2 := (kk _ hbl).trans r2
                have q3 := (kk _ hbl).trans r3
                have q4 := (kk _ hbl).trans r4
                have q5 := (kk _ hbl).trans r5
                clear kk r0 r1 r2 r3 r4 r5 kx12 ky12 kw12 kx13 ky13 kz13 kz
                rcases HLOW.out with heq | hlow
                · have heqb : (z.atom != y.atom) = false := by simp [heq]
                  clear heq
                  go_upto_region 27 with (go_at_call 29; (with_reducible refine (in2_call HTS.out HIT14.out HIS14.out).mono ?_); rintro e w15 ⟨rfl, rfl⟩)
                  have HAL15 := Lib.hid (bal (Below.refl w14.heap.size w14) (.cells #[.bool r.choice, .slice x1 r.head.length y1, .bool r.sum, .int .i64 r.bound, .slice x2 r.body.length y2, .slice x3 r.w.length y3] 60))
                  have HRB15 := Lib.hid (Blk.new w14 [.bool r.choice, .slice x1 r.head.length y1, .bool r.sum, .int .i64 r.bound, .slice x2 r.body.length y2, .slice x3 r.w.length y3] 60)
                  have kr15 := HRB15.out.cell
                  have kf15 := HRB15.out.free
                  have hl15 := HRB15.out.lt
                  clear q0 q1 q2 q3 q4 q5
                  generalize w14.alloc (.cells #[.bool r.choice, .slice x1 r.head.length y1, .bool r.sum, .int .i64 r.bound, .slice x2 r.body.length y2, .slice x3 r.w.length y3] 60) = W15 at *
                  go_upto_region 28 with fail
                  have HB16 : Hid (Below w14.heap.size w14 (W15.setCell ⟨w14.heap.size, 0, none⟩ (.bool true))) := Lib.hid (HAL15.out.setCell (Nat.le_refl _) _)
                  have hr16 := HRB15.out.set 0 (.bool true)
                  simp only [List.set_cons_zero] at hr16
                  have kr16 := hr16.cell
                  have HQB16 := Lib.hid (HQB14.out.below HB16.out)
                  have kq16 := HQB16.out.cell
                  have HROW16 := Lib.hid (HROW14.out.below HB16.out)
                  have HBW16 := Lib.hid (bon HB14.out HB16.out)
                  clear hr16 kr15 kf15
                  generalize W15.setCell ⟨w14.heap.size, 0, none⟩ (.bool true) = W16 at *
                  have HRX : Hid (RuleX w8 (W16.alloc (.cells #[.bool true, .slice x1 r.head.length y1, .bool r.sum, .int .i64 r.bound, .slice x2 r.body.length y2, .slice x3 r.w.length y3] 60)) (chR r, .slice x1 r.head.length y1, .slice x2 r.body.length y2, .slice x3 r.w.length y3)) := Lib.hid ⟨.old HSL.out.head, .old HSL.out.body, .old HSL.out.wts, HSL.out.bound⟩
                  have hqlt := HQB16.out.lt
                  go_wp2_with (at_builtin; refine wpList_appendRR rfl _ _ rfl w8 (.slice aq Lq.length cq) Lq (chR r, .slice x1 r.head.length y1, .slice x2 r.body.length y2, .slice x3 r.w.length y3) rfl (HROW16.out.below (bal (Below.refl _ _) _)) W16.heap.size 1 rfl (Blk.new W16 [.bool true, .slice x1 r.head.length y1, .bool r.sum, .int .i64 r.bound, .slice x2 r.body.length y2, .slice x3 r.w.length y3] _) HRX.out HLL.out (bal HBW16.out _) ?_; intro g cap w17 hm17 hg17 hb17; have HM17 := Lib.hid hm17; have HB17 := Lib.hid hb17; have HQB17 := Lib.hid ((HQB16.out.below (bal (Below.refl _ _) (.cells #[.bool true, .slice x1 r.head.length y1, .bool r.sum, .int .i64 r.bound, .slice x2 r.body.length y2, .slice x3 r.w.length y3] 60))).same (hg17.block w8.heap.size (by simp; omega) fun e => (HROW16.out.below (bal (Below.refl _ _) (.cells #[.bool true, .slice x1 r.head.length y1, .bool r.sum, .int .i64 r.bound, .slice x2 r.body.length y2, .slice x3 r.w.length y3] 60))).far (HQB16.out.below (bal (Below.refl _ _) _)) (by decide) e.symm)); have kq17 := HQB17.out.cell; have kf17 := HQB17.out.free; clear hm17 hg17 hb17)
                  have hq18 := HQB17.out.set 3 (.slice (some ⟨g, 0, none⟩) (Lq.length + 1) cap)
                  simp only [List.set_cons_zero, List.set_cons_succ] at hq18
                  have HQB18 := Lib.hid hq18
                  have HROW18 := Lib.hid (HM17.out.setT HQB17.out (by decide) (by decide) 3 (.slice (some ⟨g, 0, none⟩) (Lq.length + 1) cap))
                  have HB18 : Hid (Below w8.heap.size w8 (w17.setCell ⟨w8.heap.size, 3, none⟩ (.slice (some ⟨g, 0, none⟩) (Lq.length + 1) cap))) := Lib.hid (HB17.out.setCell (Nat.le_refl _) _)
                  clear hq18
                  first
                    | (go_roundw
                       case rel => (exact ⟨j + 1, _, Lq ++ [(chR r, .slice x1 r.head.length y1, .slice x2 r.body.length y2, .slice x3 r.w.length y3)], hlt, by go_num, HQB18.out, HROW18.out, by rw [List.map_append, HMAP.out, HTK.out]; rfl, HB18.out⟩)
                       case measure => (simp [intOf]; omega))
                    | (refine ⟨?_, ?_⟩
                       · (exact ⟨j + 1, _, Lq ++ [(chR r, .slice x1 r.head.length y1, .slice x2 r.body.length y2, .slice x3 r.w.length y3)], hlt, by go_num, HQB18.out, HROW18.out, by rw [List.map_append, HMAP.out, HTK.out]; rfl, HB18.out⟩)
                       · (simp [intOf]; omega))
                · by_cases heq : z.atom = y.atom
                  · have heqb : (z.atom != y.atom) = false := by simp [heq]
                    clear heq
                    go_upto_region 27 with (go_at_call 29; (with_reducible refine (in2_call HTS.out HIT14.out HIS14.out).mono ?_); rintro e w15 ⟨rfl, rfl⟩)
                    have HAL15 := Lib.hid (bal (Below.refl w14.heap.size w14) (.cells #[.bool r.choice, .slice x1 r.head.length y1, .bool r.sum, .int .i64 r.bound, .slice x2 r.body.length y2, .slice x3 r.w.length y3] 60))
                    have HRB15 := Lib.hid (Blk.new w14 [.bool r.choice, .slice x1 r.head.length y1, .bool r.sum, .int .i64 r.bound, .slice x2 r.body.length y2, .slice x3 r.w.length y3] 60)
                    have kr15 := HRB15.out.cell
                    have kf15 := HRB15.out.free
                    have hl15 := HRB15.out.lt
                    clear q0 q1 q2 q3 q4 q5
                    generalize w14.alloc (.cells #[.bool r.choice, .slice x1 r.head.length y1, .bool r.sum, .int .i64 r.bound, .slice x2 r.body.length y2, .slice x3 r.w.length y3] 60) = W15 at *
                    go_upto_region 28 with fail
                    have HB16 : Hid (Below w14.heap.size w14 (W15.setCell ⟨w14.heap.size, 0, none⟩ (.bool true))) := Lib.hid (HAL15.out.setCell (Nat.le_refl _) _)
                    have hr16 := HRB15.out.set 0 (.bool true)
                    simp only [List.set_cons_zero] at hr16
                    have kr16 := hr16.cell
                    have HQB16 := Lib.hid (HQB14.out.below HB16.out)
                    have kq16 := HQB16.out.cell
                    have HROW16 := Lib.hid (HROW14.out.below HB16.out)
                    have HBW16 := Lib.hid (bon HB14.out HB16.out)
                    clear hr16 kr15 kf15
                    generalize W15.setCell ⟨w14.heap.size, 0, none⟩ (.bool true) = W16 at *
                    have HRX : Hid (RuleX w8 (W16.alloc (.cells #[.bool true, .slice x1 r.head.length y1, .bool r.sum, .int .i64 r.bound, .slice x2 r.body.length y2, .slice x3 r.w.length y3] 60)) (chR r, .slice x1 r.head.length y1, .slice x2 r.body.length y2, .slice x3 r.w.length y3)) := Lib.hid ⟨.old HSL.out.head, .old HSL.out.body, .old HSL.out.wts, HSL.out.bound⟩
                    have hqlt := HQB16.out.lt
                    go_wp2_with (at_builtin; refine wpList_appendRR rfl _ _ rfl w8 (.slice aq Lq.length cq) Lq (chR r, .slice x1 r.head.length y1, .slice x2 r.body.length y2, .slice x3 r.w.length y3) rfl (HROW16.out.below (bal (Below.refl _ _) _)) W16.heap.size 1 rfl (Blk.new W16 [.bool true, .slice x1 r.head.length y1, .bool r.sum, .int .i64 r.bound, .slice x2 r.body.length y2, .slice x3 r.w.length y3] _) HRX.out HLL.out (bal HBW16.out _) ?_; intro g cap w17 hm17 hg17 hb17; have HM17 := Lib.hid hm17; have HB17 := Lib.hid hb17; have HQB17 := Lib.hid ((HQB16.out.below (bal (Below.refl _ _) (.cells #[.bool true, .slice x1 r.head.length y1, .bool r.sum, .int .i64 r.bound, .slice x2 r.body.length y2, .slice x3 r.w.length y3] 60))).same (hg17.block w8.heap.size (by simp; omega) fun e => (HROW16.out.below (bal (Below.refl _ _) (.cells #[.bool true, .slice x1 r.head.length y1, .bool r.sum, .int .i64 r.bound, .slice x2 r.body.length y2, .slice x3 r.w.length y3] 60))).far (HQB16.out.below (bal (Below.refl _ _) _)) (by decide) e.symm)); have kq17 := HQB17.out.cell; have kf17 := HQB17.out.free; clear hm17 hg17 hb17)
                    have hq18 := HQB17.out.set 3 (.slice (some ⟨g, 0, none⟩) (Lq.length + 1) cap)
                    simp only [List.set_cons_zero, List.set_cons_succ] at hq18
                    have HQB18 := Lib.hid hq18
                    have HROW18 := Lib.hid (HM17.out.setT HQB17.out (by decide) (by decide) 3 (.slice (some ⟨g, 0, none⟩) (Lq.length + 1) cap))
                    have HB18 : Hid (Below w8.heap.size w8 (w17.setCell ⟨w8.heap.size, 3, none⟩ (.slice (some ⟨g, 0, none⟩) (Lq.length + 1) cap))) := Lib.hid (HB17.out.setCell (Nat.le_refl _) _)
                    clear hq18
                    first
                      | (go_roundw
                         case rel => (exact ⟨j + 1, _, Lq ++ [(chR r, .slice x1 r.head.length y1, .slice x2 r.body.length y2, .slice x3 r.w.length y3)], hlt, by go_num, HQB18.out, HROW18.out, by rw [List.map_append, HMAP.out, HTK.out]; rfl, HB18.out⟩)
                         case measure => (simp [intOf]; omega))
                      | (refine ⟨?_, ?_⟩
                         · (exact ⟨j + 1, _, Lq ++ [(chR r, .slice x1 r.head.length y1, .slice x2 r.body.length y2, .slice x3 r.w.length y3)], hlt, by go_num, HQB18.out, HROW18.out, by rw [List.map_append, HMAP.out, HTK.out]; rfl, HB18.out⟩)
                         · (simp [intOf]; omega))
                  · have heqb : (z.atom != y.atom) = true := by simp [heq]
                    clear heq
                    go_upto_region 27 with (go_at_call 29; (with_reducible refine (in2_call HTS.out HIT14.out HIS14.out).mono ?_); rintro e w15 ⟨rfl, rfl⟩)
                    have HAL15 := Lib.hid (bal (Below.refl w14.heap.size w14) (.cells #[.bool r.choice, .slice x1 r.head.length y1, .bool r.sum, .int .i64 r.bound, .slice x2 r.body.length y2, .slice x3 r.w.length y3] 60))
                    have HRB15 := Lib.hid (Blk.new w14 [.bool r.choice, .slice x1 r.head.length y1, .bool r.sum, .int .i64 r.bound, .slice x2 r.body.length y2, .slice x3 r.w.length y3] 60)
                    have kr15 := HRB15.out.cell
                    have kf15 := HRB15.out.free
                    have hl15 := HRB15.out.lt
                    clear q0 q1 q2 q3 q4 q5
                    generalize w14.alloc (.cells #[.bool r.choice, .slice x1 r.head.length y1, .bool r.sum, .int .i64 r.bound, .slice x2 r.body.length y2, .slice x3 r.w.length y3] 60) = W15 at *
                    go_upto_region 28 with fail
                    have HB16 : Hid (Below w14.heap.size w14 (W15.setCell ⟨w14.heap.size, 0, none⟩ (.bool true))) := Lib.hid (HAL15.out.setCell (Nat.le_refl _) _)
                    have hr16 := HRB15.out.set 0 (.bool true)
                    simp only [List.set_cons_zero] at hr16
                    have kr16 := hr16.cell
                    have HQB16 := Lib.hid (HQB14.out.below HB16.out)
                    have kq16 := HQB16.out.cell
                    have HROW16 := Lib.hid (HROW14.out.below HB16.out)
                    have HBW16 := Lib.hid (bon HB14.out HB16.out)
                    clear hr16 kr15 kf15
                    generalize W15.setCell ⟨w14.heap.size, 0, none⟩ (.bool true) = W16 at *
                    have HRX : Hid (RuleX w8 (W16.alloc (.cells #[.bool true, .slice x1 r.head.length y1, .bool r.sum, .int .i64 r.bound, .slice x2 r.body.length y2, .slice x3 r.w.length y3] 60)) (chR r, .slice x1 r.head.length y1, .slice x2 r.body.length y2, .slice x3 r.w.length y3)) := Lib.hid ⟨.old HSL.out.head, .old HSL.out.body, .old HSL.out.wts, HSL.out.bound⟩
                    have hqlt := HQB16.out.lt
                    go_wp2_with (at_builtin; refine wpList_appendRR rfl _ _ rfl w8 (.slice aq Lq.length cq) Lq (chR r, .slice x1 r.head.length y1, .slice x2 r.body.length y2, .slice x3 r.w.length y3) rfl (HROW16.out.below (bal (Below.refl _ _) _)) W16.heap.size 1 rfl (Blk.new W16 [.bool true, .slice x1 r.head.length y1, .bool r.sum, .int .i64 r.bound, .slice x2 r.body.length y2, .slice x3 r.w.length y3] _) HRX.out HLL.out (bal HBW16.out _) ?_; intro g cap w17 hm17 hg17 hb17; have HM17 := Lib.hid hm17; have HB17 := Lib.hid hb17; have HQB17 := Lib.hid ((HQB16.out.below (bal (Below.refl _ _) (.cells #[.bool true, .slice x1 r.head.length y1, .bool r.sum, .int .i64 r.bound, .slice x2 r.body.length y2, .slice x3 r.w.length y3] 60))).same (hg17.block w8.heap.size (by simp; omega) fun e => (HROW16.out.below (bal (Below.refl _ _) (.cells #[.bool true, .slice x1 r.head.length y1, .bool r.sum, .int .i64 r.bound, .slice x2 r.body.length y2, .slice x3 r.w.length y3] 60))).far (HQB16.out.below (bal (Below.refl _ _) _)) (by decide) e.symm)); have kq17 := HQB17.out.cell; have kf17 := HQB17.out.free; clear hm17 hg17 hb17)
                    have hq18 := HQB17.out.set 3 (.slice (some ⟨g, 0, none⟩) (Lq.length + 1) cap)
                    simp only [List.set_cons_zero, List.set_cons_succ] at hq18
                    have HQB18 := Lib.hid hq18
                    have HROW18 := Lib.hid (HM17.out.setT HQB17.out (by decide) (by decide) 3 (.slice (some ⟨g, 0, none⟩) (Lq.length + 1) cap))
                    have HB18 : Hid (Below w8.heap.size w8 (w17.setCell ⟨w8.heap.size, 3, none⟩ (.slice (some ⟨g, 0, none⟩) (Lq.length + 1) cap))) := Lib.hid (HB17.out.setCell (Nat.le_refl _) _)
                    clear hq18
                    first
                      | (go_roundw
                         case rel => (exact ⟨j + 1, _, Lq ++ [(chR r, .slice x1 r.head.length y1, .slice x2 r.body.length y2, .slice x3 r.w.length y3)], hlt, by go_num, HQB18.out, HROW18.out, by rw [List.map_append, HMAP.out, HTK.out]; rfl, HB18.out⟩)
                         case measure => (simp [intOf]; omega))
                      | (refine ⟨?_, ?_⟩
                         · (exact ⟨j + 1, _, Lq ++ [(chR r, .slice x1 r.head.length y1, .slice x2 r.body.length y2, .slice x3 r.w.length y3)], hlt, by go_num, HQB18.out, HROW18.out, by rw [List.map_append, HMAP.out, HTK.out]; rfl, HB18.out⟩)
                         · (simp [intOf]; omega))
              · rw [if_neg hin, List.append_nil] at HTK
                have HIN2 : Hid (decide (z.atom ∈ S) = false) := Lib.hid (decide_eq_false hin)
                clear hin
                go_wp2_with (go_at_call 29; (with_reducible refine (in1_call HIN2.out HZT.out HIS12.out).mono ?_); rintro e w13 ⟨rfl, hb13⟩; have HB13 := Lib.hid (bon HB12.out hb13); have HQB13 := Lib.hid (HQB12.out.below hb13); have HROW13 := Lib.hid (HROW12.out.below hb13); clear hb13)
                first
                  | (go_roundw
                     case rel => (exact ⟨j + 1, _, Lq, hlt, by go_num, HQB13.out, HROW13.out, by rw [HMAP.out, HTK.out], HB13.out⟩)
                     case measure => (simp [intOf]; omega))
                  | (refine ⟨?_, ?_⟩
                     · (exact ⟨j + 1, _, Lq, hlt, by go_num, HQB13.out, HROW13.out, by rw [HMAP.out, HTK.out], HB13.out⟩)
                     · (simp [intOf]; omega))
            · obtain rfl : j = L.length := by omega
              have hmap := HMAP.out
              rw [List.take_length] at hmap
              have hLq : Lq.length ≤ 1000 := by
                have := congrArg List.length hmap
                simp only [supRs, supF, List.length_map] at this
                have h2 := List.length_filter_le (fun y : WY => decide (y.atom ∈ S)) L
                omega
              have hru := HROW.out.rules hb (by omega)
              rw [hmap] at hru
              have HPG : Hid (ProgIs wr (.agg #[.int .i64 p.n, .slice a0 p.names.length c0, .slice a3 p.shown.length c3, .slice aq Lq.length cq, .slice a5 p.min.length c5]) (supG p S L)) := Lib.hid ⟨_, _, _, _, rfl, HPS.out.n, HPS.out.names.below (bon HS8.out.st.below hb), HPS.out.shown.below (bon HS8.out.st.below hb), hru, HPS.out.min.below (bon HS8.out.st.below hb)⟩
              have hvg := supG_valid (S := S) (x := ⟨L, R⟩) HV.out HVAL.out (by show L.length ≤ 40000; omega)
              have HEG : Hid (xE (supG p S L) m = 0) := Lib.hid (xE_of hvg HSET.out (supG_models p m S L))
              obtain ⟨L2, R2, hLR2⟩ : ∃ L2 R2, explX (supG p S L) m = ⟨L2, R2⟩ := ⟨_, _, rfl⟩
              have hck2 : chkX (supG p S L) m ⟨L2, R2⟩ = true := by rw [← hLR2]; exact expl_valid hvg HSET.out
              have hll2 := chk_len hck2
              dsimp only at hll2
              obtain ⟨z, hz, hza, hzl⟩ := sup_least (S := S) (x := ⟨L, R⟩) HV.out HSET.out HVAL.out HNS.out (by show L.length ≤ 40000; omega) HSS.out.down HYM.out HSS.out.has
              rw [show explX (supG p S (XP.whys ⟨L, R⟩)) m = ⟨L2, R2⟩ from hLR2] at hz
              have hnd2 := (chk_val hvg HSET.out hck2).nod
              have HFD : Hid (∀ i, i < L2.length → (ixY L2 i).atom = y.atom → (ixY L2 i).level ≤ y.level) := Lib.hid fun i hi e => by
                rw [why_same hnd2 (ixY_mem0 hi) hz (e.trans hza.symm)]; exact hzl
              have HEX : Hid (∃ i, i < L2.length ∧ (ixY L2 i).atom = y.atom) := Lib.hid (by
                obtain ⟨i, hi, e⟩ := mem_ixY hz
                exact ⟨i, hi, by rw [e]; exact hza⟩)
              have HLR2 := Lib.hid hLR2
              have HSE := Lib.hid (HS8.out.on hb)
              have kqE := HQB.out.cell
              have kwE := HSE.out.wbx.cell
              clear hmap hLq hru hvg hLR2 hck2 hz hza hzl hnd2 ky10
              go_upto_region 31 with (go_at_call 14; (with_reducible refine (expl_ok HEG.out HLR2.out HPG.out HSE.out.set).mono ?_); rintro e w20 ⟨a6, c6, a7, c7, rfl, hY20, hR20, hb20⟩; have HS20 := Lib.hid (HSE.out.on hb20); have HY20 := Lib.hid (hY20.whys (by omega)); have kw20 := HS20.out.wbx.cell; clear hb20 hY20 hR20)
              have hal := bal (Below.refl w20.heap.size w20) (.cells #[.slice a6 L2.length c6, .slice a7 R2.length c7] 30)
              have HS21 := Lib.hid (HS20.out.on hal)
              have HY21 := Lib.hid (HY20.out.below hal)
              have kw21 := HS21.out.wbx.cell
              have k21 := (Blk.new w20 [.slice a6 L2.length c6, .slice a7 R2.length c7] 30).cell
              clear hal kw20 kwE kqE
              generalize w20.alloc (.cells #[.slice a6 L2.length c6, .slice a7 R2.length c7] 30) = W21 at *
              generalize w20.heap.size = yb at *
              go_wp2_with fail
              go_loopw [179] (fun i wx => Sv3Rel L2 y.atom W21 i wx) (fun i _ => L2.length - (intOf i).toNat)
              case atStart => exact ⟨0, Nat.zero_le _, rfl, fun k hk => absurd hk (Nat.not_lt_zero _), Below.refl _ _⟩
              case round =>
                obtain ⟨j2, hj2, rfl, hno, hb2⟩ := hrel
                have HNO := Lib.hid hno
                have HB2 := Lib.hid hb2
                by_cases hlt2 : j2 < L2.length
                · have HS22 := Lib.hid (HS21.out.on hb2)
                  obtain ⟨a8, c8, e8, -, -, -, hc8⟩ := (HY21.out.below hb2).form
                  simp only [Value.slice.injEq] at e8
                  obtain ⟨rfl, -, rfl⟩ := e8
                  obtain ⟨b8, o8, rfl, hb8', hcc8⟩ := hc8 (by omega)
                  obtain ⟨k0, k1, k2⟩ := hcc8 j2 hlt2
                  have HF2 := Lib.hid (HFD.out j2 hlt2)
                  have HN2 : Hid ((ixY L2 j2).atom ≠ y.atom → ∀ k, k < j2 + 1 → (ixY L2 k).atom ≠ y.atom) := Lib.hid fun h k hk => by
                    rcases Nat.lt_succ_iff_lt_or_eq.1 hk with h1 | rfl
                    · exact HNO.out k h1
                    · exact h
                  clear hno hb2 hc8 hcc8
                  generalize ixY L2 j2 = z at *
                  go_upto_region 36 with fail
                  have hal := bal (Below.refl wr.heap.size wr) (.cells #[.int .i64 z.atom, .int .i64 z.rule, .int .i64 z.level] 49)
                  have HB3 := Lib.hid (bon HB2.out hal)
                  have HS23 := Lib.hid (HS22.out.on hal)
                  have kw23 := HS23.out.wbx.cell
                  have kz23 := (Blk.new wr [.int .i64 z.atom, .int .i64 z.rule, .int .i64 z.level] 49).cell
                  clear hal k0 k1 k2
                  generalize wr.alloc (.cells #[.int .i64 z.atom, .int .i64 z.rule, .int .i64 z.level] 49) = W23 at *
                  generalize wr.heap.size = zb at *
                  by_cases heq : z.atom = y.atom
                  · have heqb : (z.atom == y.atom) = true := by simp [heq]
                    have hle := HF2.out heq
                    clear heq
                    go_wp2_with (go_at_call 12; (with_reducible refine (awake41_any _).mono ?_); rintro e w9 ⟨rfl, hb9⟩; have HE9 := Lib.hid (HS23.out.st.on hb9); clear hb9)
                    go_ret
                    exact ⟨rfl, HE9.out.below⟩
                  · have heqb : (z.atom == y.atom) = false := by simp [heq]
                    have HN3 := Lib.hid (HN2.out heq)
                    clear heq
                    go_wp2_with fail
                    first
                      | (go_roundw
                         case rel => (exact ⟨j2 + 1, hlt2, by go_num, HN3.out, HB3.out⟩)
                         case measure => (simp [intOf]; omega))
                      | (refine ⟨?_, ?_⟩
                         · (exact ⟨j2 + 1, hlt2, by go_num, HN3.out, HB3.out⟩)
                         · (simp [intOf]; omega))
                · obtain ⟨i, hi, e⟩ := HEX.out
                  exact absurd e (hno i (by omega))
theorem esupport_law {W : World} {vp : Value} {p : GP} (hP : ProgIs W vp p) (x : Int) (_hx : (Lit.int .u16 x).wf = true) (y : Int) (hy : (Lit.int .u8 y).wf = true) :
    Calls Tryz.prog 5 #[vp, .int .u16 x, .int .u8 y] W fun e W' => e = .returned (.bool true) ∧ Below W.heap.size W W' :=
  esupport_any vp p x y W hP (bounds_u8 hy)
end Go.Proofs.YtfajkmmmmmfhiaaGreatDoor
namespace Go.Proofs.YtfajkmmmmmfhiaaGreatDoor
open Go.RowKit Go.WideShapes
section
variable {H : Type} {enc : TypeId × Value → H} {w : World} {r : Reach} {b0 : Nat} {v : Value} {d : DataW H} {q : List MemPlace}
theorem arg_reads {P : Program} {t : TypeId} (h : DataW.Trod enc P w 0 (fun _ => true) true t v d q) (hw : ∀ m ∈ d.weights P t, m ≤ reachBytes) : Reads enc P w t v.cells.toList := by
  obtain ⟨fuel, hf⟩ := h
  exact ⟨fuel, _, hf, hw⟩
set_option maxRecDepth 100000 in
theorem arg_Prog (hv : Value.okWide Tryz.prog w r b0 27 v) (h : DataW.Trod enc Tryz.prog w 0 (fun _ => true) true 27 v d q) (hw : ∀ m ∈ d.weights Tryz.prog 27, m ≤ reachBytes) : ∃ p, ProgIs w v p := by
  obtain ⟨cs, rfl, -⟩ := okWide_struct Tryz.underlying27 hv
  have hr := arg_reads h hw
  obtain ⟨p, vn, vs, vr, vm, he, hp⟩ := open_Prog hr
  refine ⟨p, vn, vs, vr, vm, ?_, hp⟩
  have : cs.toList = [.int .i64 p.n, vn, vs, vr, vm] := by simpa [Value.cells] using he
  congr 1
  exact Array.toList_inj.1 this
end
end Go.Proofs.YtfajkmmmmmfhiaaGreatDoor
