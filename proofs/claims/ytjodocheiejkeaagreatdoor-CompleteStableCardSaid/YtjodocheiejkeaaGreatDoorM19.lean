/- My texts Rdc4, Rc1, Rf26r, RowK, St2, merged. -/
import Derived.Test.YtjodocheiejkeaaGreatDoorM18
import Derived.Test.YtjodocheiejkeaaGreatDoorM17
import Derived.Test.YtjodocheiejkeaaGreatDoorM16
import Derived.Test.YtjodocheiejkeaaGreatDoorM07
import Derived.Test.YtjodocheiejkeaaGreatDoorM06
import Derived.Test.YtjodocheiejkeaaGreatDoorM05
import Derived.Test.YtjodocheiejkeaaGreatDoorM04
import Derived.Test.YtjodocheiejkeaaGreatDoorM03
import Derived.Test.YtjodocheiejkeaaGreatDoorM02
import Derived.Test.YtjodocheiejkeaaGreatDoorM00
import Derived.Test.YtjodocheiejkeaaGreatDoorProg
import Derived.WalkKit
import Derived.Lib.Hide
import Derived.Deep.QuietTactic
import Derived.BigQuiet
import Derived.WalkSpells
import Derived.Lib.SliceRun
import Derived.MapKept
import Derived.Maps.OwnSet
import Derived.Maps.OwnOps
import Derived.Test.YtjodocheiejkeaaGreatDoorM01
import Derived.Deep.AppendLies
import Derived.Lib.Bytealg
import Derived.Deep.DeepCutAuto
import Derived.Laws.EntriesVeiled
import Derived.Deep.RegionWith
import Derived.Deep.OwnRows
import Derived.RangeFuncNested
import Derived.RangeFuncBound
import Derived.RangeFuncCalls
import Derived.RangeFuncLeaves
import Derived.OwnWalkIn
import Derived.TacticsInMore
import Derived.LoopNIn
import Derived.LoopIn
import Derived.Stop.RegionWithIn
import Derived.Shelf.Abstract
import Derived.Test.YtjodocheiejkeaaGreatDoorM15
import Derived.Test.YtjodocheiejkeaaGreatDoorM14
import Derived.Test.YtjodocheiejkeaaGreatDoorM13
import Derived.Deep.LoopGhost
import Derived.Deep.DrawnRows
import Derived.Deep.RegionHeld3
import Derived.Laws.ResultCell
import Derived.Laws.Rows
import Derived.Deep.RegionLaw
import Derived.Test.YtjodocheiejkeaaGreatDoorM11
import Derived.Deep.AppendSrc
import Derived.Sort.CutIn
import Derived.Test.YtjodocheiejkeaaGreatDoorM08
import Derived.Sort.QuietThIn
import Derived.Test.YtjodocheiejkeaaGreatDoorM10
import Derived.Test.YtjodocheiejkeaaGreatDoorM09
import Derived.Maps.RangeWalk
import Derived.Lib.SlicesCompact
import Derived.Shelf.Sort.Plain
import Derived.Shelf.Slices.CompactI
import Derived.Shelf.Slices.In.SortNone
import Derived.Shelf.Strconv.Itoa3
import Derived.Shelf.Strings.BuilderK
import Derived.Sort.OwnSortedInts
import Derived.RangeFuncBox
import Derived.Maps.OwnIn
import Derived.Lib.RowBridge
import Derived.Test.YtjodocheiejkeaaGreatDoorM12
import Derived.Deep.DeepMust
import Derived.ProofKit
import Derived.OpenShut
import Derived.ChangeArms
import Derived.SizedLaws

namespace Go.Proofs.YtjodocheiejkeaaGreatDoor
open Go.RowKit
attribute [local go_sem] Oper.semAt_some memUpon
theorem yieldEndR {e : Ending} {A B : Prop} (h : (e = .returned (.bool true) ∧ A) ∨ (e = .returned (.bool false) ∧ B)) : ∃ b, e = .returned (.bool b) ∧ (b = true → A) ∧ (b = false → B) := by
  rcases h with ⟨rfl, h⟩ | ⟨rfl, h⟩
  · exact ⟨true, rfl, fun _ => h, fun e => (Bool.noConfusion e)⟩
  · exact ⟨false, rfl, (fun e => Bool.noConfusion e), fun _ => h⟩
def RdSlots (p : GP) (m : List Int) (n0 rb : Nat) (W0 : World) (J : List RQ → World → Prop) (i : Value) (wr : World) : Prop :=
  ∃ (k : Nat) (pre : List RQ), k ≤ p.rules.length ∧ i = .int .i64 k ∧ rqs pre = redTo p m k ∧ J pre wr ∧ Lim n0 [rb] W0 wr ∧ Hid (∀ g, rowOf rb wr = some g → g < wr.heap.size)
set_option maxHeartbeats 4000000 in
set_option maxRecDepth 100000 in
theorem reduced_stops (p : GP) (m : List Int) (wi w0 : World) (vn vs vr vm : Value) (hP : ProgIs wi (.agg #[.int .i64 p.n, vn, vs, vr, vm]) p) (rb pb fb mb : Nat)
    (hst : RedSt wi w0 m pb fb mb rb [.int .i64 p.n, vn, vs, vr, vm]) (hv : validE p = 0) (n : Nat) (hn : 1 ≤ n) :
    SeqStopsR Fence.wide n Tryz.prog 145 #[.pointer (some ⟨pb, 0, none⟩), .pointer (some ⟨fb, 0, none⟩)] redEnc (RKp w0.heap.size rb) (RedR w0.heap.size)
      (fun xs => rqs xs = redL p m) (fun _ => True) (redL p m).length w0 := by
  intro l J Jx W hW hJ hJx hY h0
  obtain ⟨vn', vs', vr', vm', e, hPS⟩ := hP
  simp only [Value.agg.injEq, Array.mk.injEq, List.cons.injEq, and_true] at e
  obtain ⟨-, rfl, rfl, rfl, rfl⟩ := e
  obtain ⟨a1, c1, rfl, -, hl1, -, hcell⟩ := hPS.rules.form
  have HST := Lib.hid hst
  have HY := Lib.hid hY
  have HJ := Lib.hid hJ
  have HJX := Lib.hid hJx
  have H0 := Lib.hid h0
  have HW := Lib.hid hW
  have HCELL := Lib.hid hcell
  have HPS := Lib.hid hPS
  have hpbl := hst.pb.lt
  have hfbl := hst.fb.lt
  have hrbl := hst.row.lt
  have hrlo := hst.rlo
  have hN := hst.below.size
  have hpne := hst.pb.ne_ty hst.row (by decide)
  have hfne := hst.fb.ne_ty hst.row (by decide)
  have hr0 : Hid (∀ g, rowOf rb W = some g → g < W.heap.size) := Lib.hid (fun g hg => by
    rw [rowOf_same (hW.block rb hrbl)] at hg
    unfold rowOf at hg
    rw [hst.row.cell 0] at hg
    cases hg)
  have kp := (hst.pb.below hW).cell
  have hzW := hW.size
  have HBW := Lib.hid (bodyW_valid hv)
  clear hst hY hJ hJx h0 hW hcell hPS
  refine callsIn_of_wp Tryz.func145 rfl trivial ?_ rfl
  simp only [Tryz.ntmps145, List.size_toArray, List.length_cons, List.length_nil, Nat.reduceAdd, Nat.reduceSub, Array.replicate_succ, Array.replicate_zero, List.push_toArray, List.append_toArray, List.nil_append, List.cons_append]
  gi_wp2
  clear kp
  gi_loopw [14] (fun i wr => RdSlots p m w0.heap.size rb W J i wr) (fun i _ => p.rules.length - (intOf i).toNat)
  case atStart => exact ⟨0, [], Nat.zero_le _, rfl, rfl, H0.out, Lim.refl _ _ _, hr0⟩
  case round =>
    obtain ⟨k, pre, hk, rfl, hpre, hj, hlim, HRW⟩ := hrel
    have HJR := Lib.hid hj
    have HPRE := Lib.hid hpre
    have HLIM := Lib.hid hlim
    have hlim0 : Lim w0.heap.size [rb] w0 wr := (Lim.of_below HW.out (Nat.le_refl _)).trans hlim
    have HBWI : Hid (Below wi.heap.size wi wr) := Lib.hid (HST.out.below.trans ((hlim0.mono hN (fun i hi _ => hi)).below (fun i hi => by simp only [List.mem_singleton] at hi; omega)))
    have HPB := Lib.hid (HST.out.pb.lim hlim0 hpbl hpne)
    have HFB := Lib.hid (HST.out.fb.lim hlim0 hfbl hfne)
    have HIN := Lib.hid (HST.out.inm.lim HST.out.row hlim0)
    have hzr := hlim0.size
    clear hj hpre hlim hlim0
    by_cases hlt : k < p.rules.length
    · obtain ⟨b, off, rfl, hbl, hc⟩ := HCELL.out (by omega)
      obtain ⟨vh, vb, vw, ⟨k0, k1, k2, k3, k4, k5⟩, hsl⟩ := hc k hlt
      have hbw := HBWI.out
      have hk0 := (bcell hbw _ _ hbl).trans k0
      have hk1 := (bcell hbw _ _ hbl).trans k1
      have hk2 := (bcell hbw _ _ hbl).trans k2
      have hk3 := (bcell hbw _ _ hbl).trans k3
      have hk4 := (bcell hbw _ _ hbl).trans k4
      have hk5 := (bcell hbw _ _ hbl).trans k5
      have HSL := Lib.hid hsl
      obtain ⟨ah, ch, rfl, -, hlh, -, -⟩ := hsl.head.form
      obtain ⟨ab, cb, rfl, -, hlb, -, -⟩ := hsl.body.form
      obtain ⟨aw, cw, rfl, -, hlw, -, -⟩ := hsl.wts.form
      clear hc k0 k1 k2 k3 k4 k5 hsl hbw
      have hal := bal (Below.refl wr.heap.size wr) (.cells #[.bool (ixR p.rules k).choice, .slice ah (ixR p.rules k).head.length ch, .bool (ixR p.rules k).sum, .int .i64 (ixR p.rules k).bound, .slice ab (ixR p.rules k).body.length cb, .slice aw (ixR p.rules k).w.length cw] 55)
      have HBR := Lib.hid (Blk.new wr [.bool (ixR p.rules k).choice, .slice ah (ixR p.rules k).head.length ch, .bool (ixR p.rules k).sum, .int .i64 (ixR p.rules k).bound, .slice ab (ixR p.rules k).body.length cb, .slice aw (ixR p.rules k).w.length cw] 55)
      have HRI : Hid (RuleIs (wr.alloc (.cells #[.bool (ixR p.rules k).choice, .slice ah (ixR p.rules k).head.length ch, .bool (ixR p.rules k).sum, .int .i64 (ixR p.rules k).bound, .slice ab (ixR p.rules k).body.length cb, .slice aw (ixR p.rules k).w.length cw] 55)) (.agg #[.bool (ixR p.rules k).choice, .slice ah (ixR p.rules k).head.length ch, .bool (ixR p.rules k).sum, .int .i64 (ixR p.rules k).bound, .slice ab (ixR p.rules k).body.length cb, .slice aw (ixR p.rules k).w.length cw]) (ixR p.rules k)) := Lib.hid ⟨_, _, _, rfl, HSL.out.below (bon HBWI.out hal)⟩
      have HAL := Lib.hid hal
      have HFB1 := HFB.out.below hal
      have kf1 := HFB1.cell 0
      have HIN1 := Lib.hid (HIN.out.below hal)
      clear hal HFB1
      have HRW1 : Hid (∀ w', Below wr.heap.size wr w' → rowOf rb w' = rowOf rb wr) := Lib.hid (fun w' hb => rowOf_same (hb.block rb (by omega)))
      cases hr : redB m (ixR p.rules k) with
      | none =>
        have HR := Lib.hid hr
        clear hr
        gi_wp2_with (refine ⟨trivial, ?_⟩; gi_at_call 146; refine (callsIn_wide.2 ((positive_any _ (ixR p.rules k) m mb p.n _ HRI.out HIN1.out (HBW.out k hlt)).mono fun _ _ hp => posOut_none HR.out hp)).mono ?_; rintro e w2 ⟨rfl, hb2⟩; have HB2 := Lib.hid (bon HAL.out hb2); clear hb2)
        have HB3 := Lib.hid (bal HB2.out (.cells #[.bool false, .slice none 0 0, .bool false, .int .i64 0, .slice none 0 0, .slice none 0 0] 55))
        first
          | (go_roundw
             case rel => (exact ⟨k + 1, pre, hlt, by go_num, by rw [HPRE.out, redTo_none HR.out], AbidesFrom.below HJ.out HJR.out HB3.out, HLIM.out.trans (.of_below HB3.out (by omega)), Lib.hid ((CK.below HB3.out (by omega)).1 HRW.out)⟩)
             case measure => (simp [intOf]; omega))
          | (refine ⟨?_, ?_⟩
             · (exact ⟨k + 1, pre, hlt, by go_num, by rw [HPRE.out, redTo_none HR.out], AbidesFrom.below HJ.out HJR.out HB3.out, HLIM.out.trans (.of_below HB3.out (by omega)), Lib.hid ((CK.below HB3.out (by omega)).1 HRW.out)⟩)
             · (simp [intOf]; omega))
      | some x =>
        have HR := Lib.hid hr
        have HRF := Lib.hid (red_form (HBW.out k hlt) hr)
        clear hr
        cases hch : (ixR p.rules k).choice with
        | false =>
          have HCH := Lib.hid hch
          have HLEN : Hid (pre.length < (redL p m).length) := Lib.hid (by
            have h1 := redTo_mono (p := p) (m := m) p.rules.length (k + 1) (by omega)
            rw [redTo_plain HR.out HCH.out, List.length_append, List.length_singleton, ← HPRE.out, rqs_len] at h1
            exact h1)
          rw [hch] at HRI HBR HAL HIN1 kf1 hk0
          clear hch
          gi_wp2_with (first
            | (refine ⟨trivial, ?_⟩; gi_at_call 146; refine (callsIn_wide.2 ((positive_any _ (ixR p.rules k) m mb p.n _ HRI.out HIN1.out (HBW.out k hlt)).mono fun _ _ hp => posOut_some HR.out hp)).mono ?_; rintro e w2 ⟨a2, n2, c2, a3, n3, c3, rfl, hqa, hqb, hb2⟩; have HB2 := Lib.hid (bon HAL.out hb2); have HQA := Lib.hid hqa; have HQB := Lib.hid hqb; have kb5 := (HBR.out.below hb2).cell; have z5 := Nat.lt_of_lt_of_le HBR.out.lt hb2.size; have HB5 := Lib.hid (HBR.out.below hb2); have ka5 := fun ob o => (bcell (bal (Below.refl _ w2) ob) wr.heap.size o z5).trans (kb5 o); clear hqa hqb hb2)
            | (refine ⟨trivial, ?_⟩; gi_at_call 37; refine (callsIn_wide.2 (cloneI_sl _ _ _ (HSL.out.head.below (bon HBWI.out (bal HB2.out _))))).mono ?_; rintro e w4 ⟨a4, c4, rfl, ho4, hb4⟩; have hblk := (Blk.new w2 [.bool false, .slice none 0 0, .bool x.sum, .int .i64 x.bound, .slice a2 n2 c2, .slice a3 n3 c3] 55).below hb4; have kb6 := hblk.cell; have fb6 := hblk.free; have hb24 := bon (bal (Below.refl w2.heap.size w2) (.cells #[.bool false, .slice none 0 0, .bool x.sum, .int .i64 x.bound, .slice a2 n2 c2, .slice a3 n3 c3] 55)) hb4; have hz2 := HB2.out.size; have HB7 : Hid (Below wr.heap.size wr (w4.setCell ⟨w2.heap.size, 1, none⟩ (.slice a4 (ixR p.rules k).head.length c4))) := Lib.hid ((bon HB2.out hb24).setCell (p := ⟨w2.heap.size, 1, none⟩) hz2 _); have HRR : Hid (RedR w0.heap.size (withHead x (ixR p.rules k).head, .slice a4 (ixR p.rules k).head.length c4, .slice a2 n2 c2, .slice a3 n3 c3) (w4.setCell ⟨w2.heap.size, 1, none⟩ (.slice a4 (ixR p.rules k).head.length c4))) := Lib.hid ⟨HRF.out.1, ((QRow.of_own ho4).setFar 1 _ (by simp)).mono (by simp; omega), (HQA.out.boxed hb24 1 _).mono (by simp; omega), (HQB.out.boxed hb24 1 _).mono (by simp; omega), HRF.out.2.2⟩; obtain ⟨fn, tmps, assign, body, hy, hR⟩ := HY.out pre _ _ (AbidesFrom.below HJ.out HJR.out HB7.out) HRR.out HLEN.out; simp only [redEnc, withHead] at hy; clear hb24 hz2 ho4 hb4 hblk)
            | (refine hR.mono ?_; rintro e W6 h6; obtain ⟨bb, rfl, hbt, hbf⟩ := yieldEndR h6; have HBT := Lib.hid hbt; have HBF := Lib.hid hbf; clear hbt hbf h6))
          · cases bb with
            | false =>
              (try gi_wp2)
              refine bodyPost_ret (results_none rfl _ _ _) rfl ?_
              exact ⟨⟨_, rfl⟩, .inr ⟨_, (by first | exact ⟨trivial, HBF.out rfl⟩ | exact HBF.out rfl | exact ⟨trivial, HBF.out trivial⟩ | exact HBF.out trivial)⟩⟩
            | true => exact Bool.noConfusion ‹(!true) = true›
          · cases bb with
            | false => exact Bool.noConfusion ‹(!false) = false›
            | true =>
              first
                | (go_roundw
                   case rel => (exact ⟨k + 1, pre ++ [_], hlt, by go_num, by rw [rqs_snoc, HPRE.out, redTo_plain HR.out HCH.out], (HBT.out (by first | exact rfl | exact trivial)).1, (HLIM.out.trans (.of_below HB7.out (by omega))).trans (HBT.out (by first | exact rfl | exact trivial)).2.1, Lib.hid ((HBT.out (by first | exact rfl | exact trivial)).2.2.1 ((CK.below HB7.out (by omega)).1 HRW.out))⟩)
                   case measure => (simp [intOf]; omega))
                | (refine ⟨?_, ?_⟩
                   · (exact ⟨k + 1, pre ++ [_], hlt, by go_num, by rw [rqs_snoc, HPRE.out, redTo_plain HR.out HCH.out], (HBT.out (by first | exact rfl | exact trivial)).1, (HLIM.out.trans (.of_below HB7.out (by omega))).trans (HBT.out (by first | exact rfl | exact trivial)).2.1, Lib.hid ((HBT.out (by first | exact rfl | exact trivial)).2.2.1 ((CK.below HB7.out (by omega)).1 HRW.out))⟩)
                   · (simp [intOf]; omega))
        | true =>
          have HCH := Lib.hid hch
          have HXL := Lib.hid (red_len HR.out)
          have hbl0 := (HBW.out k hlt).v.ok.len
          rw [hch] at HRI HBR HAL HIN1 kf1 hk0
          clear hch
          gi_wp2_with (refine ⟨trivial, ?_⟩; gi_at_call 146; refine (callsIn_wide.2 ((positive_any _ (ixR p.rules k) m mb p.n _ HRI.out HIN1.out (HBW.out k hlt)).mono fun _ _ hp => posOut_some HR.out hp)).mono ?_; rintro e w2 ⟨a2, n2, c2, a3, n3, c3, rfl, hqa, hqb, hb2⟩; have HB2 := Lib.hid (bon HAL.out hb2); have HQA := Lib.hid hqa; have HQB := Lib.hid hqb; have kb5 := (HBR.out.below hb2).cell; have z5 := Nat.lt_of_lt_of_le HBR.out.lt hb2.size; have HB5 := Lib.hid (HBR.out.below hb2); have ka5 := fun ob o => (bcell (bal (Below.refl _ w2) ob) wr.heap.size o z5).trans (kb5 o); clear hqa hqb hb2)
          have HB3 := Lib.hid (bal HB2.out (.cells #[.bool false, .slice none 0 0, .bool x.sum, .int .i64 x.bound, .slice a2 n2 c2, .slice a3 n3 c3] 55))
          have HN6 := Lib.hid (Blk.new w2 [.bool false, .slice none 0 0, .bool x.sum, .int .i64 x.bound, .slice a2 n2 c2, .slice a3 n3 c3] 55)
          have HR3 : Hid (rowOf rb (w2.alloc (.cells #[.bool false, .slice none 0 0, .bool x.sum, .int .i64 x.bound, .slice a2 n2 c2, .slice a3 n3 c3] 55)) = rowOf rb wr) := Lib.hid (rowOf_same (HB3.out.block rb (by omega)))
          clear kb5 ka5
          generalize wr = wq at *
          gi_loopw [27] (fun i wr => ChSlots p m w0.heap.size rb k x (ixR p.rules k).head W J (ChSt rb (wq.heap.size + 1) wq.heap.size w2.heap.size [.bool true, .slice ah (ixR p.rules k).head.length ch, .bool (ixR p.rules k).sum, .int .i64 (ixR p.rules k).bound, .slice ab (ixR p.rules k).body.length cb, .slice aw (ixR p.rules k).w.length cw] [.bool false, .slice none 0 0, .bool x.sum, .int .i64 x.bound, .slice a2 n2 c2, .slice a3 n3 c3] (.slice a2 n2 c2) (.slice a3 n3 c3) x.body x.w) i wr) (fun i _ => (ixR p.rules k).head.length - (intOf i).toNat)
          case atStart =>
            have hd2 := bal (Below.refl w2.heap.size w2) (.cells #[.bool false, .slice none 0 0, .bool x.sum, .int .i64 x.bound, .slice a2 n2 c2, .slice a3 n3 c3] 55)
            refine ⟨0, pre, Nat.zero_le _, rfl, by rw [HPRE.out]; simp [redCh], AbidesFrom.below HJ.out HJR.out HB3.out, HLIM.out.trans (.of_below HB3.out (by omega)), ?_⟩
            refine ⟨(CK.below HB3.out (by omega)).1 HRW.out, HB5.out.below hd2, ?_, HN6.out, ?_, (HQA.out.below hd2).mono (by simp), ?_, (HQB.out.below hd2).mono (by simp), ?_, by omega, by omega, by omega, by have := hd2.size; omega⟩
            · intro e; rw [HR3.out] at e; have := HRW.out _ e; omega
            · intro e; rw [HR3.out] at e; have := HRW.out _ e; omega
            · intro i hi e; rw [HR3.out] at e; have := HRW.out _ e; exact HQA.out.own_ne (.inl (by simp; omega)) hi
            · intro i hi e; rw [HR3.out] at e; have := HRW.out _ e; exact HQB.out.own_ne (.inl (by simp; omega)) hi
          case round =>
            obtain ⟨j, pre2, hj2, rfl, hpre2, hjy, hlimy, hsty⟩ := hrel
            have HPRE2 := Lib.hid hpre2
            have HJY := Lib.hid hjy
            have HLIMY := Lib.hid hlimy
            have HSTY := Lib.hid hsty
            have hlim1 : Lim w0.heap.size [rb] w0 wr := (Lim.of_below HW.out (Nat.le_refl _)).trans hlimy
            have HBWY : Hid (Below wi.heap.size wi wr) := Lib.hid (HST.out.below.trans ((hlim1.mono hN (fun i hi _ => hi)).below (fun i hi => by simp only [List.mem_singleton] at hi; omega)))
            have HFBY := HST.out.fb.lim hlim1 hfbl hfne
            have kfy := HFBY.cell 0
            have HINY := Lib.hid (HST.out.inm.lim HST.out.row hlim1)
            have hzy := hlim1.size
            have hty := hsty.top
            have k6 := hsty.b6.cell
            have hl6 := hsty.b6.lt
            clear hpre2 hjy hlimy hsty hlim1 HFBY
            by_cases hlt2 : j < (ixR p.rules k).head.length
            · obtain ⟨b2, o2, rfl, hbl2, hc2⟩ := HSL.out.head.at hlt2
              have hc2y := (bcell HBWY.out _ _ hbl2).trans hc2
              have HFA : Hid (InI (ix (ixR p.rules k).head j)) := Lib.hid (HSL.out.head.2 j)
              cases hmb : decide (ix (ixR p.rules k).head j ∈ m) with
              | false =>
                have HMB := Lib.hid hmb
                clear hmb
                gi_wp2_with (refine ⟨trivial, ?_⟩; gi_at_call 118; refine (callsIn_wide.2 (memb1_any _ m _ _ HINY.out)).mono ?_; rintro e w1 ⟨e1, rfl⟩; rw [HMB.out] at e1; subst e1)
                first
                  | (go_roundw
                     case rel => (exact ⟨j + 1, pre2, hlt2, by go_num, by rw [HPRE2.out, redCh_out hlt2 HMB.out], HJY.out, HLIMY.out, HSTY.out⟩)
                     case measure => (simp [intOf]; omega))
                  | (refine ⟨?_, ?_⟩
                     · (exact ⟨j + 1, pre2, hlt2, by go_num, by rw [HPRE2.out, redCh_out hlt2 HMB.out], HJY.out, HLIMY.out, HSTY.out⟩)
                     · (simp [intOf]; omega))
              | true =>
                have HMB := Lib.hid hmb
                clear hmb
                have HLEN : Hid (pre2.length < (redL p m).length) := Lib.hid (ch_len HR.out HCH.out hlt hlt2 HMB.out HPRE2.out)
                gi_upto_region 9 with (refine ⟨trivial, ?_⟩; gi_at_call 118; refine (callsIn_wide.2 (memb1_any _ m _ _ HINY.out)).mono ?_; rintro e w1 ⟨e1, rfl⟩; rw [HMB.out] at e1; subst e1)
                have hal := bal (Below.refl wr.heap.size wr) (.cells #[.bool false, .slice none 0 0, .bool x.sum, .int .i64 x.bound, .slice a2 n2 c2, .slice a3 n3 c3] 55)
                have HBX := Lib.hid hal
                have HB10 := Lib.hid (Blk.new wr [.bool false, .slice none 0 0, .bool x.sum, .int .i64 x.bound, .slice a2 n2 c2, .slice a3 n3 c3] 55)
                have HS1 := Lib.hid (HSTY.out.below hal)
                have kz : wr.heap.size < (wr.alloc (.cells #[.bool false, .slice none 0 0, .bool x.sum, .int .i64 x.bound, .slice a2 n2 c2, .slice a3 n3 c3] 55)).heap.size := HB10.out.lt
                clear hal hc2y kfy k6
                generalize wr.alloc (.cells #[.bool false, .slice none 0 0, .bool x.sum, .int .i64 x.bound, .slice a2 n2 c2, .slice a3 n3 c3] 55) = W1 at *
                have kr6 : ∀ e : Ext W1, ∀ o, e.world.cell? ⟨w2.heap.size, o, none⟩ = [Value.bool false, .slice none 0 0, .bool x.sum, .int .i64 x.bound, .slice a2 n2 c2, .slice a3 n3 c3][o]? := fun e o => (bcell e.below _ o HS1.out.b6.lt).trans (HS1.out.b6.cell o)
                refine wpIn_wide.2 ?_
                refine wp_region_tail' 9 (fun _ => True) (chΦ W1.heap.size (ix (ixR p.rules k).head j) x) (fun i => i == 1 || i == 4 || i == 7) (by kernel_rfl) (by kernel_rfl) (by kernel_rfl) (fun _ _ => trivial) (chΦ_later _ _ _) ?_
                simp only [List.take_succ_cons, List.take_zero, List.drop_succ_cons, List.drop_zero]
                iterate 1 (refine walkP_head (by kernel_rfl) rfl rfl rfl (fun K hK => ?_); go_big_quiet_op; refine hK _ ?_; clear hK K)
                refine walkP_mem rfl rfl (fun wa hba hFa => ?_) (fun v1 lo1 hi1 l1 g1 h1 => ?_)
                · go_simp
                  exact ⟨bal (Below.refl _ _) _, _, _, rfl, QRow.one (Blk.new wa [.int .i64 (ix (ixR p.rules k).head j)] _) hba.size HFA.out⟩
                obtain ⟨_, xa1, ca1, rfl, -⟩ := h1
                simp only [Act.put, List.setIfInBounds_toArray, List.set_cons_succ, List.set_cons_zero]
                iterate 2 (refine walkP_head (by kernel_rfl) rfl rfl rfl (fun K hK => ?_); go_big_quiet_op; refine hK _ ?_; clear hK K)
                refine walkP_mem rfl rfl (fun wa hba hFa => ?_) (fun v4 lo4 hi4 l4 g4 h4 => ?_)
                · go_simp
                  refine (cloneI_sl _ x.body _ ((HS1.out.qa.below hba).ints (by have := HXL.out.1; omega))).mono ?_
                  rintro e wz ⟨xz, yz, rfl, ho, hb⟩
                  exact ⟨_, rfl, hb, xz, yz, rfl, (QRow.of_own ho).mono hba.size⟩
                obtain ⟨_, xa4, ca4, rfl, -⟩ := h4
                simp only [Act.put, List.setIfInBounds_toArray, List.set_cons_succ, List.set_cons_zero]
                iterate 2 (refine walkP_head (by kernel_rfl) rfl rfl rfl (fun K hK => ?_); go_big_quiet_op; refine hK _ ?_; clear hK K)
                refine walkP_mem rfl rfl (fun wa hba hFa => ?_) (fun v7 lo7 hi7 l7 g7 h7 => ?_)
                · go_simp
                  refine (cloneI_sl _ x.w _ ((HS1.out.qb.below hba).ints (by have := HXL.out.2; omega))).mono ?_
                  rintro e wz ⟨xz, yz, rfl, ho, hb⟩
                  exact ⟨_, rfl, hb, xz, yz, rfl, (QRow.of_own ho).mono hba.size⟩
                obtain ⟨_, xa7, ca7, rfl, -⟩ := h7
                simp only [Act.put, List.setIfInBounds_toArray, List.set_cons_succ, List.set_cons_zero]
                iterate 1 (refine walkP_head (by kernel_rfl) rfl rfl rfl (fun K hK => ?_); go_big_quiet_op; refine hK _ ?_; clear hK K)
                intro wx hbx hF hI hP
                have f7 := hF _ (.head _)
                have f4 := hF _ (.tail _ (.head _))
                have f1 := hF _ (.tail _ (.tail _ (.head _)))
                obtain ⟨_, _, e7, F7⟩ := f7
                obtain ⟨_, _, e4, F4⟩ := f4
                obtain ⟨_, _, e1, F1⟩ := f1
                clear hF hI hP
                have kx := fun o => (bcell hbx _ o HB10.out.lt).trans (HB10.out.cell o)
                have kf := fun o => (bfrozen hbx _ o HB10.out.lt).trans (HB10.out.free o)
                have HF7 := Lib.hid F7
                have HF4 := Lib.hid F4
                have HF1 := Lib.hid F1
                have HBXX := Lib.hid hbx
                clear e7 e4 e1 F7 F4 F1
                iterate 5 (refine ⟨rfl, rfl, ?_⟩; go_simp)
                simp only [tailW]
                have hrc := HB10.out.below hbx
                have HRC : Hid (Blk (((wx.setCell ⟨wr.heap.size, 1, none⟩ (.slice xa1 1 ca1)).setCell ⟨wr.heap.size, 4, none⟩ (.slice xa4 x.body.length ca4)).setCell ⟨wr.heap.size, 5, none⟩ (.slice xa7 x.w.length ca7)) wr.heap.size [.bool false, .slice xa1 1 ca1, .bool x.sum, .int .i64 x.bound, .slice xa4 x.body.length ca4, .slice xa7 x.w.length ca7] 55) := Lib.hid (((hrc.set 1 _).set 4 _).set 5 _)
                have HBW5 : Hid (Below wr.heap.size wr (((wx.setCell ⟨wr.heap.size, 1, none⟩ (.slice xa1 1 ca1)).setCell ⟨wr.heap.size, 4, none⟩ (.slice xa4 x.body.length ca4)).setCell ⟨wr.heap.size, 5, none⟩ (.slice xa7 x.w.length ca7))) := Lib.hid ((((bon HBX.out hbx).setCell (Nat.le_refl _) _).setCell (Nat.le_refl _) _).setCell (Nat.le_refl _) _)
                have keep : ∀ (u : Value) (l : List Int), QRow W1.heap.size wx u l → QRow W1.heap.size (((wx.setCell ⟨wr.heap.size, 1, none⟩ (.slice xa1 1 ca1)).setCell ⟨wr.heap.size, 4, none⟩ (.slice xa4 x.body.length ca4)).setCell ⟨wr.heap.size, 5, none⟩ (.slice xa7 x.w.length ca7)) u l := fun u l h =>
                  h.kept fun i hi _ _ => (Below.heap_setCell _ _ _ _ (show i ≠ wr.heap.size by omega)).trans ((Below.heap_setCell _ _ _ _ (show i ≠ wr.heap.size by omega)).trans (Below.heap_setCell _ _ _ _ (show i ≠ wr.heap.size by omega)))
                have HRR : Hid (RedR w0.heap.size (withHead x [ix (ixR p.rules k).head j], .slice xa1 1 ca1, .slice xa4 x.body.length ca4, .slice xa7 x.w.length ca7) (((wx.setCell ⟨wr.heap.size, 1, none⟩ (.slice xa1 1 ca1)).setCell ⟨wr.heap.size, 4, none⟩ (.slice xa4 x.body.length ca4)).setCell ⟨wr.heap.size, 5, none⟩ (.slice xa7 x.w.length ca7))) :=
                  Lib.hid ⟨HRF.out.1, (keep _ _ HF1.out).mono (by omega), (keep _ _ HF4.out).mono (by omega), (keep _ _ HF7.out).mono (by omega), HRF.out.2.2⟩
                clear keep hrc kx kf HF1 HF4 HF7 kr6 hbx
                generalize ((wx.setCell ⟨wr.heap.size, 1, none⟩ (.slice xa1 1 ca1)).setCell ⟨wr.heap.size, 4, none⟩ (.slice xa4 x.body.length ca4)).setCell ⟨wr.heap.size, 5, none⟩ (.slice xa7 x.w.length ca7) = W5 at *
                have HJ5 := Lib.hid (AbidesFrom.below HJ.out HJY.out HBW5.out)
                have HS5 := Lib.hid (HSTY.out.below HBW5.out)
                have k10 := HRC.out.cell
                have hz5 := HBW5.out.size
                obtain ⟨fn, tmps, assign, body, hy, hR⟩ := HY.out pre2 _ _ HJ5.out HRR.out HLEN.out
                simp only [redEnc, withHead] at hy
                gi_wp2_with (refine hR.mono ?_; rintro e W6 h6; obtain ⟨bb, rfl, hbt, hbf⟩ := yieldEndR h6; have HBT := Lib.hid hbt; have HBF := Lib.hid hbf; clear hbt hbf h6)
                · cases bb with
                  | false =>
                    (try gi_wp2)
                    refine bodyPost_ret (results_none rfl _ _ _) rfl ?_
                    exact ⟨⟨_, rfl⟩, .inr ⟨_, (by first | exact ⟨trivial, HBF.out rfl⟩ | exact HBF.out rfl | exact ⟨trivial, HBF.out trivial⟩ | exact HBF.out trivial)⟩⟩
                  | true => exact Bool.noConfusion ‹(!true) = true›
                · cases bb with
                  | false => exact Bool.noConfusion ‹(!false) = false›
                  | true =>
                    have hbt := HBT.out (by first | exact rfl | exact trivial)
                    first
                      | (go_roundw
                         case rel => (exact ⟨j + 1, pre2 ++ [_], hlt2, by go_num, by rw [rqs_snoc, HPRE2.out, redCh_in hlt2 HMB.out, List.append_assoc], hbt.1, (HLIMY.out.trans (.of_below HBW5.out (by omega))).trans hbt.2.1, HS5.out.ck hbt.2.2 hbt.2.1.size⟩)
                         case measure => (simp [intOf]; omega))
                      | (refine ⟨?_, ?_⟩
                         · (exact ⟨j + 1, pre2 ++ [_], hlt2, by go_num, by rw [rqs_snoc, HPRE2.out, redCh_in hlt2 HMB.out, List.append_assoc], hbt.1, (HLIMY.out.trans (.of_below HBW5.out (by omega))).trans hbt.2.1, HS5.out.ck hbt.2.2 hbt.2.1.size⟩)
                         · (simp [intOf]; omega))
            · obtain rfl : j = (ixR p.rules k).head.length := by omega
              gi_wp2
              first
                | (go_roundw
                   case rel => (exact ⟨k + 1, pre2, hlt, by go_num, by rw [HPRE2.out, redTo_choice HR.out HCH.out], HJY.out, HLIMY.out, Lib.hid HSTY.out.row⟩)
                   case measure => (simp [intOf]; omega))
                | (refine ⟨?_, ?_⟩
                   · (exact ⟨k + 1, pre2, hlt, by go_num, by rw [HPRE2.out, redTo_choice HR.out HCH.out], HJY.out, HLIMY.out, Lib.hid HSTY.out.row⟩)
                   · (simp [intOf]; omega))
    · gi_wp2
      go_end0
      first
        | exact ⟨⟨_, rfl⟩, .inl ⟨pre, HPRE.out, HJR.out⟩⟩
        | (obtain rfl : k = p.rules.length := by omega
           exact ⟨⟨_, rfl⟩, .inl ⟨pre, HPRE.out, HJR.out⟩⟩)
end Go.Proofs.YtjodocheiejkeaaGreatDoor
namespace Go.Proofs.YtjodocheiejkeaaGreatDoor
open Go.RowKit
structure RD (w : World) (vo vn : Value) (T U : List Int) (wx : World) : Prop where
  ro : QRow (w.heap.size + 1) wx vo T
  rn : QRow (w.heap.size + 1) wx vn U
  far : Far vo vn
  box : Blk wx w.heap.size pbZ 46
  below : Below w.heap.size w wx
section
variable {w wx wy : World} {vo vn vo' vn' : Value} {T U T' U' : List Int}
theorem RD.on (h : RD w vo vn T U wx) (hb : Below wx.heap.size wx wy) : RD w vo vn T U wy :=
  ⟨h.ro.below hb, h.rn.below hb, h.far, h.box.below hb, bon h.below hb⟩
theorem RD.alloc (h : RD w vo vn T U wx) (o : Obj) : RD w vo vn T U (wx.alloc o) := h.on (bal (Below.refl wx.heap.size wx) o)
end
structure RU (B : Nat) (vo vn : Value) (L : List CQ) (N : List Int) (wx : World) : Prop where
  row : MineC B vo L wx
  neg : QRow B wx vn N
  far : ∀ q ∈ L, ∀ g, vn.ownBlock = some g → q.2.1.ownBlock ≠ some g ∧ q.2.2.ownBlock ≠ some g
section
variable {B : Nat} {vo vn vn' : Value} {L : List CQ} {N N' : List Int} {wx wy : World}
theorem RU.start (B : Nat) (wx : World) : RU B (.slice none 0 0) (.slice none 0 0) [] [] wx := ⟨MineC.nil B wx, QRow.nil _ _, fun q hq => by simp at hq⟩
theorem RU.on (h : RU B vo vn L N wx) (hb : Below wx.heap.size wx wy) : RU B vo vn L N wy := ⟨h.row.below hb, h.neg.below hb, h.far⟩
theorem MineC.base {v : Value} (h : MineC B v L wx) {q : CQ} (hq : q ∈ L) {g : Nat} (e : q.2.1.ownBlock = some g ∨ q.2.2.ownBlock = some g) : g < wx.heap.size := by
  obtain ⟨h1, h2, -⟩ := h.each q hq
  rcases e with e | e
  · exact (h1.base e).2
  · exact (h2.base e).2
theorem rowC_ne (h : wx.ownsRow B 46 3 vo L.length (L.flatMap cells3)) (hn : QRow B wx vn N) : vo.ownBlock = none ∨ vo.ownBlock ≠ vn.ownBlock := by
  rcases h.2 with ⟨rfl, _⟩ | ⟨g, cap, cur, rfl, _, hg, _⟩
  · exact .inl rfl
  · exact .inr fun e => hn.far (b := g) (c := cur.toList) (T := 46) (by unfold Blk; rw [hg]) (by decide) e.symm
theorem RU.grow (h : RU B vo vn L N wx) (hq : QRow B wy vn' N') (hg : wx.grownBy wy vn.ownBlock) (ho : vn'.ownBlock = vn.ownBlock ∨ vn'.ownBlock = some wx.heap.size) : RU B vo vn' L N' wy := by
  refine ⟨⟨h.row.row.kept hg (rowC_ne h.row.row h.neg), fun q hm => ?_⟩, hq, fun q hm g e => ?_⟩
  · obtain ⟨h1, h2, h3⟩ := h.row.each q hm
    exact ⟨h1.kept fun i _ hi hv => hg.block i hi fun e => (h.far q hm i e.symm).1 hv, h2.kept fun i _ hi hv => hg.block i hi fun e => (h.far q hm i e.symm).2 hv, h3⟩
  · rcases ho with h1 | h1
    · exact h.far q hm g (h1 ▸ e)
    · rw [h1] at e
      obtain rfl := Option.some.inj e
      exact ⟨fun e2 => absurd (h.row.base hm (.inl e2)) (Nat.lt_irrefl _), fun e2 => absurd (h.row.base hm (.inr e2)) (Nat.lt_irrefl _)⟩
theorem RU.push {g cap : Nat} {q : CQ} (h : RU B vo vn L N wx) (hq : QRow B wx q.2.1 q.1.lits ∧ QRow B wx q.2.2 q.1.coefs ∧ InI q.1.bound ∧ q.1.lits.length ≤ 65536 ∧ q.1.coefs.length ≤ 65536)
    (hf : ∀ g, vn.ownBlock = some g → q.2.1.ownBlock ≠ some g ∧ q.2.2.ownBlock ≠ some g)
    (hown : wy.ownsRow B 46 3 (.slice (some ⟨g, 0, none⟩) (L.length + 1) cap) (L.length + 1) (L.flatMap cells3 ++ cells3 q)) (hg : wx.grownBy wy vo.ownBlock) :
    RU B (.slice (some ⟨g, 0, none⟩) (L.length + 1) cap) vn (L ++ [q]) N wy := by
  refine ⟨h.row.push hq hown hg, h.neg.rowKeptC h.row.row hg, fun q' hm => ?_⟩
  rcases List.mem_append.1 hm with hm | hm
  · exact h.far q' hm
  · obtain rfl : q' = q := by simpa using hm
    exact hf
end
theorem RU.pushed {B b0 : Nat} {vo vn : Value} {L : List CQ} {N : List Int} {wx wy : World} {al ak : Option Addr} {cl ck g cap : Nat} {c : PBC} (h : RU B vo vn L N wx) (h1 : QRow b0 wx (.slice al c.lits.length cl) c.lits) (h2 : QRow b0 wx (.slice ak c.coefs.length ck) c.coefs) (hB : B ≤ b0)
    (hn : ∀ g, vn.ownBlock = some g → g < b0) (h3 : InI c.bound ∧ c.lits.length ≤ 65536 ∧ c.coefs.length ≤ 65536)
    (hown : wy.ownsRow B 46 3 (.slice (some ⟨g, 0, none⟩) (L.length + 1) cap) (L.length + 1) (L.flatMap cells3 ++ [.slice al c.lits.length cl, .slice ak c.coefs.length ck, .int .i64 c.bound])) (hg : wx.grownBy wy vo.ownBlock) :
    ∃ L', L'.length = L.length + 1 ∧ L'.map (·.1) = L.map (·.1) ++ [c] ∧ RU B (.slice (some ⟨g, 0, none⟩) (L.length + 1) cap) vn L' N wy := by
  refine ⟨L ++ [(c, .slice al c.lits.length cl, .slice ak c.coefs.length ck)], by simp, by simp, h.push (q := (c, .slice al c.lits.length cl, .slice ak c.coefs.length ck)) ⟨h1.mono hB, h2.mono hB, h3⟩ (fun g e => ?_) hown hg⟩
  have := hn g e
  exact ⟨fun e2 => by have := (h1.base e2).1; omega, fun e2 => by have := (h2.base e2).1; omega⟩
theorem RU.lt {B : Nat} {vo vn : Value} {L : List CQ} {N : List Int} {wx : World} (h : RU B vo vn L N wx) : ∀ g, vn.ownBlock = some g → g < wx.heap.size := fun _ e => (h.neg.base e).2
theorem RU.kept {B : Nat} {vo vn : Value} {L : List CQ} {N : List Int} {W wx wy : World} (h : RU B vo vn L N wx) (hb : Below W.heap.size W wx) (hB : W.heap.size ≤ B) (hg : wx.grownBy wy vo.ownBlock) : Below W.heap.size W wy :=
  hb.trans (below_row hg hb.size fun g e => Nat.le_trans hB (rowC_isC h.row.row g e).1)
structure RowsK (B : Nat) (live : Nat → Option (List Int)) (vals : Nat → Value) (wx : World) : Prop where
  row : ∀ i l, live i = some l → QRow B wx (vals i) l
  far : ∀ i j l m, live i = some l → live j = some m → i ≠ j → ∀ g, (vals i).ownBlock = some g → (vals j).ownBlock ≠ some g
section
variable {B k x : Nat} {live live' : Nat → Option (List Int)} {vals : Nat → Value} {wx wy : World} {v : Value} {l lx : List Int}
theorem RowsK.start (B : Nat) (vals : Nat → Value) (wx : World) (h : ∀ i l, live i ≠ some l) : RowsK B live vals wx := ⟨fun i l e => absurd e (h i l), fun i _ l _ e => absurd e (h i l)⟩
theorem RowsK.on (h : RowsK B live vals wx) (hb : Below wx.heap.size wx wy) : RowsK B live vals wy := ⟨fun i l e => (h.row i l e).below hb, h.far⟩
theorem RowsK.new (h : RowsK B live vals wx) (hb : Below wx.heap.size wx wy) (hq : QRow wx.heap.size wy v l) (hB : B ≤ wx.heap.size) (hl : ∀ i m, live' i = some m → i = k ∧ m = l ∨ i ≠ k ∧ live i = some m) : RowsK B live' (updN vals k v) wy := by
  have e : ∀ i, i ≠ k → updN vals k v i = vals i := fun i hi => by simp only [updN]; rw [if_neg hi]
  have e0 : updN vals k v k = v := by simp [updN]
  have hlt : ∀ i m, live i = some m → ∀ g, (vals i).ownBlock = some g → g < wx.heap.size := fun i m hi g hg => ((h.row i m hi).base hg).2
  refine ⟨fun i m hi => ?_, fun i j m n hi hj hij g hg hg2 => ?_⟩
  · rcases hl i m hi with ⟨rfl, rfl⟩ | ⟨h1, h2⟩
    · rw [e0]; exact hq.mono hB
    · rw [e i h1]; exact (h.row i m h2).below hb
  · rcases hl i m hi with ⟨rfl, rfl⟩ | ⟨h1, h2⟩ <;> rcases hl j n hj with ⟨rfl, rfl⟩ | ⟨h3, h4⟩
    · exact hij rfl
    · rw [e0] at hg; rw [e j h3] at hg2
      have := (hq.base hg).1; have := hlt j n h4 g hg2; omega
    · rw [e0] at hg2; rw [e i h1] at hg
      have := (hq.base hg2).1; have := hlt i m h2 g hg; omega
    · rw [e i h1] at hg; rw [e j h3] at hg2
      exact h.far i j m n h2 h4 hij g hg hg2
theorem RowsK.app (h : RowsK B live vals wx) (hx : live x = some lx) (hq : QRow B wy v l) (hg : wx.grownBy wy (vals x).ownBlock) (ho : v.ownBlock = (vals x).ownBlock ∨ v.ownBlock = some wx.heap.size)
    (hl : ∀ i m, live' i = some m → i = k ∧ m = l ∨ i ≠ k ∧ i ≠ x ∧ live i = some m) : RowsK B live' (updN vals k v) wy := by
  have e : ∀ i, i ≠ k → updN vals k v i = vals i := fun i hi => by simp only [updN]; rw [if_neg hi]
  have e0 : updN vals k v k = v := by simp [updN]
  have hlt : ∀ i m, live i = some m → ∀ g, (vals i).ownBlock = some g → g < wx.heap.size := fun i m hi g hg => ((h.row i m hi).base hg).2
  have hnew : ∀ i m, live i = some m → i ≠ x → ∀ g, (vals i).ownBlock = some g → v.ownBlock ≠ some g := fun i m hi hix g e1 e2 => by
    rcases ho with ho | ho
    · rw [ho] at e2; exact h.far i x m lx hi hx hix g e1 e2
    · rw [ho] at e2; have := hlt i m hi g e1; have := Option.some.inj e2; omega
  refine ⟨fun i m hi => ?_, fun i j m n hi hj hij g hg1 hg2 => ?_⟩
  · rcases hl i m hi with ⟨rfl, rfl⟩ | ⟨h1, h1b, h2⟩
    · rw [e0]; exact hq
    · rw [e i h1]
      exact (h.row i m h2).kept fun b _ hb hv => hg.block b hb fun e3 => h.far i x m lx h2 hx h1b b hv e3.symm
  · rcases hl i m hi with ⟨rfl, rfl⟩ | ⟨h1, h1b, h2⟩ <;> rcases hl j n hj with ⟨rfl, rfl⟩ | ⟨h3, h3b, h4⟩
    · exact hij rfl
    · rw [e0] at hg1; rw [e j h3] at hg2; exact hnew j n h4 h3b g hg2 hg1
    · rw [e0] at hg2; rw [e i h1] at hg1; exact hnew i m h2 h1b g hg1 hg2
    · rw [e i h1] at hg1; rw [e j h3] at hg2
      exact h.far i j m n h2 h4 hij g hg1 hg2
theorem RowsK.below (h : RowsK B live vals wx) (hx : live x = some lx) {W : World} (hW : Below W.heap.size W wx) (hB : W.heap.size ≤ B) (hg : wx.grownBy wy (vals x).ownBlock) : Below W.heap.size W wy :=
  hW.trans (below_row hg hW.size fun _ e => Nat.le_trans hB ((h.row x lx hx).base e).1)
theorem qrow_box {y : Int} (hy : InI y) (wx : World) : QRow wx.heap.size (wx.alloc (.cells #[.int .i64 y] 3)) (.slice (some ⟨wx.heap.size, 0, none⟩) 1 1) [y] :=
  ⟨fitI (by simpa using hy), .inr ⟨_, 0, 1, #[.int .i64 y], rfl, Nat.le_refl _, heap_alloc_new wx _, by simp, by unfold maxLen; omega, by simp, fun i hi => by
    obtain rfl : i = 0 := by simpa using hi
    rfl⟩⟩
end
set_option maxHeartbeats 1000000 in
theorem idxR_stm (v : Value) (l : List GR) (w : World) (h : RulesIs w v l) (g : Nat → Bool) (cap : Value)
    (hg : ∀ w', Below w.heap.size w w' → ∀ j, j < l.length → ∀ u, RuleIs w' u (ixR l j) → Calls Tryz.prog 147 #[u, cap] w' fun e w'' => e = .returned (.bool (g j)) ∧ Below w'.heap.size w' w'') :
    Calls Tryz.prog 97 #[v, .func (.func 147) #[] #[cap]] w fun e w' => ∃ r, e = .returned (.int .i64 r) ∧ IxP l.length g r ∧ Below w.heap.size w w' := by
  obtain ⟨a1, c1, rfl, -, hl1, -, hcell⟩ := h.form
  have HG := Lib.hid hg
  clear h hg
  go_enter Tryz.func97, Tryz.ntmps97
  go_wp2
  go_loopw [8] (fun i wx => IxR l.length g w i wx) (fun i _ => l.length - (intOf i).toNat)
  case atStart => exact ⟨0, by omega, rfl, fun j hj => absurd hj (Nat.not_lt_zero _), Below.refl _ _⟩
  case round =>
    obtain ⟨k, hk, rfl, hall, hb⟩ := hrel
    have HA := Lib.hid hall
    clear hall
    by_cases hlt : k < l.length
    · obtain ⟨b, off, rfl, hbl, hc⟩ := hcell (by omega)
      obtain ⟨vh, vb, vw, ⟨k0, k1, k2, k3, k4, k5⟩, hsl⟩ := hc k hlt
      have hbr := hsl.below hb
      have hk0 := (bcell hb _ _ hbl).trans k0
      have hk1 := (bcell hb _ _ hbl).trans k1
      have hk2 := (bcell hb _ _ hbl).trans k2
      have hk3 := (bcell hb _ _ hbl).trans k3
      have hk4 := (bcell hb _ _ hbl).trans k4
      have hk5 := (bcell hb _ _ hbl).trans k5
      have HRU : Hid (RuleIs wr (.agg #[.bool (ixR l k).choice, vh, .bool (ixR l k).sum, .int .i64 (ixR l k).bound, vb, vw]) (ixR l k)) := Lib.hid ⟨vh, vb, vw, rfl, hbr⟩
      clear hc hcell k0 k1 k2 k3 k4 k5 hsl hbr
      cases g1 : g k with
      | true =>
        have HK : Hid (_ = true) := Lib.hid g1
        have HC := Lib.hid (HG.out _ hb k hlt _ HRU.out)
        rw [g1] at HC
        clear g1
        go_wp2_with (go_at_call 147; refine (HC.out).mono ?_; rintro e w1 ⟨rfl, hb1⟩)
        go_ret
        exact ⟨_, rfl, .inr ⟨k, hlt, rfl, HK.out, HA.out⟩, bon hb hb1⟩
      | false =>
        have HN := Lib.hid (lt_succ_all HA.out g1)
        have HC := Lib.hid (HG.out _ hb k hlt _ HRU.out)
        rw [g1] at HC
        clear g1
        go_wp2_with (go_at_call 147; refine (HC.out).mono ?_; rintro e w1 ⟨rfl, hb1⟩)
        first
          | (go_roundw
             case rel => (exact ⟨k + 1, by omega, by go_num, HN.out, bon hb hb1⟩)
             case measure => (simp [intOf]; omega))
          | (refine ⟨?_, ?_⟩
             · (exact ⟨k + 1, by omega, by go_num, HN.out, bon hb hb1⟩)
             · (simp [intOf]; omega))
    · have HN : Hid (∀ j, j < l.length → g j = false) := Lib.hid (fun j hj => HA.out j (by omega))
      go_wp2
      go_ret
      exact ⟨_, rfl, .inl ⟨rfl, HN.out⟩, hb⟩
set_option maxHeartbeats 1000000 in
theorem ctnR_stm (v : Value) (l : List GR) (w : World) (h : RulesIs w v l) (g : Nat → Bool) (cap : Value)
    (hg : ∀ w', Below w.heap.size w w' → ∀ j, j < l.length → ∀ u, RuleIs w' u (ixR l j) → Calls Tryz.prog 147 #[u, cap] w' fun e w'' => e = .returned (.bool (g j)) ∧ Below w'.heap.size w' w'') :
    Calls Tryz.prog 67 #[v, .func (.func 147) #[] #[cap]] w fun e w' => e = .returned (.bool (anyR l.length g)) ∧ Below w.heap.size w w' := by
  have HI := Lib.hid (idxR_stm v l w h g cap hg)
  obtain ⟨a1, c1, rfl, -⟩ := h.form
  clear h hg
  go_enter Tryz.func67, Tryz.ntmps67
  go_wp2_with (go_at_call 97; refine (HI.out).mono ?_; rintro e w1 ⟨r, rfl, hr, hb1⟩; have HR := Lib.hid hr; clear hr)
  go_ret
  exact ⟨ret_bool HR.out.any, hb1⟩
set_option maxHeartbeats 2000000 in
theorem satf_any (vr vm : Value) (R : List GR) (S : List Int) (n : Int) (w : World) (hR : RulesIs w vr R) (hS : Ints w vm S) (hml : S.length ≤ 1000000000) (hok : ∀ q, q < R.length → BodyV (ixR R q) n) :
    Calls Tryz.prog 100 #[vr, vm] w fun e w' => e = .returned (.bool (satR R S)) ∧ Below w.heap.size w w' := by
  obtain ⟨a1, c1, rfl, -, hl1, -, -⟩ := hR.form
  obtain ⟨a2, c2, rfl, -⟩ := hS.form
  have hal := bal (Below.refl w.heap.size w) (.cells #[.slice a2 S.length c2] 23)
  have HAL := Lib.hid hal
  have hbx := Blk.new w [.slice a2 S.length c2] 23
  have HC := Lib.hid (ctnR_stm _ R _ (hR.below hal) (fun j => !satT (ixR R j) S) (.pointer (some ⟨w.heap.size, 0, none⟩)) (fun w' hb' j hj u hu => sat1_any S w.heap.size _ u (ixR R j) n w' hu (hbx.below hb') ((hS.below hal).below hb') hml (hok j hj)))
  have HSR := Lib.hid (satR_any R S)
  clear hR hS hal hbx hok
  go_enter Tryz.func100, Tryz.ntmps100
  go_wp2_with (go_at_call 67; (with_reducible refine (HC.out).mono ?_); rintro e w1 ⟨rfl, hb1⟩; have HB1 := Lib.hid (bon HAL.out hb1); clear hb1)
  go_ret
  exact ⟨ret_bool HSR.out, HB1.out⟩
set_option maxHeartbeats 1000000 in
theorem subsets_any (a : Option Addr) (n c : Nat) (w : World) :
    Calls Tryz.prog 30 #[.slice a n c] w fun e w' => e = .returned (.func (.func 69) #[] #[.pointer (some ⟨w.heap.size, 0, none⟩)]) ∧ Below w.heap.size w w' ∧ Blk w' w.heap.size [.slice a n c] 23 := by
  have HB := Lib.hid (bal (Below.refl w.heap.size w) (.cells #[.slice a n c] 23))
  have HN := Lib.hid (Blk.new w [.slice a n c] 23)
  go_enter Tryz.func30, Tryz.ntmps30
  go_wp2
  go_ret
  exact ⟨rfl, HB.out, HN.out⟩
theorem sh_wrap2 : ∀ N : Nat, N < 13 → wrap64 (2 ^ N) = ((2 ^ N : Nat) : Int) ∧ 2 ^ N ≤ 4096 := by
  intro N hN
  have h2 : 2 ^ N ≤ 2 ^ 12 := Nat.pow_le_pow_right (by omega) (by omega)
  have h3 : (2 : Int) ^ N = ((2 ^ N : Nat) : Int) := by push_cast; rfl
  refine ⟨?_, by omega⟩
  rw [h3]
  generalize 2 ^ N = T at *
  unfold wrap64
  omega
theorem sbTo_next (m : List Int) (k j : Nat) : sbTo m k (j + 1) = if bitAt k j then sbTo m k j ++ [ix m j] else sbTo m k j := rfl
def SbO (T : Nat) (n0 : Nat) (Sx : List Nat) (W0 : World) (J : List (Nat × Value) → World → Prop) (i : Value) (wr : World) : Prop :=
  ∃ (k : Nat) (pre : List (Nat × Value)), k ≤ T ∧ i = .int .i64 k ∧ pre.map (·.1) = List.range k ∧ J pre wr ∧ Lim n0 Sx W0 wr
def SbI (m : List Int) (k : Nat) (Wq : World) (o i : Value) (wr : World) : Prop :=
  ∃ j : Nat, j ≤ m.length ∧ i = .int .i64 j ∧ (∃ a n c, o = .slice a n c) ∧ QRow Wq.heap.size wr o (sbTo m k j) ∧ Below Wq.heap.size Wq wr
set_option maxHeartbeats 4000000 in
set_option maxRecDepth 100000 in
theorem subs_stops (m : List Int) (w0 : World) (mb : Nat) (a0 : Option Addr) (c0 : Nat) (Sx : List Nat) (hK : ∀ W', Lim w0.heap.size Sx w0 W' → Blk W' mb [.slice a0 m.length c0] 23 ∧ Ints W' (.slice a0 m.length c0) m) (hml : m.length ≤ 12) (n : Nat) (hn : 1 ≤ n) :
    SeqStopsR Fence.wide n Tryz.prog 69 #[.pointer (some ⟨mb, 0, none⟩)] (fun x : Nat × Value => #[x.2]) (fun A B => Lim w0.heap.size Sx A B) (fun x W => QRow w0.heap.size W x.2 (sbL m x.1))
      (fun xs => xs.map (·.1) = List.range (2 ^ m.length)) (fun pre => ∃ k, k < 2 ^ m.length ∧ pre.map (·.1) = List.range (k + 1)) (2 ^ m.length) w0 := by
  intro l J Jx W hW hJ hJx hY h0
  have HK := Lib.hid hK
  have HY := Lib.hid hY
  have HJ := Lib.hid hJ
  have H0 := Lib.hid h0
  have HW := Lib.hid hW
  have hzW := hW.size
  have k0 := (hK W (.of_below hW (Nat.le_refl _))).1.cell 0
  obtain ⟨hsh, hT⟩ := sh_wrap2 m.length (by omega)
  obtain ⟨T, hTT⟩ : ∃ T : Nat, 2 ^ m.length = T := ⟨_, rfl⟩
  rw [hTT] at hsh hT HY
  have HTT := Lib.hid hTT
  clear hK hY hJ hJx h0 hW hTT
  refine callsIn_of_wp Tryz.func69 rfl trivial ?_ rfl
  simp only [Tryz.ntmps69, List.size_toArray, List.length_cons, List.length_nil, Nat.reduceAdd, Nat.reduceSub, Array.replicate_succ, Array.replicate_zero, List.push_toArray, List.append_toArray, List.nil_append, List.cons_append]
  gi_wp2
  (try rw [hsh])
  clear hsh k0
  gi_loopw [10] (fun i wr => SbO T w0.heap.size Sx W J i wr) (fun i _ => T - (intOf i).toNat)
  case atStart => exact ⟨0, [], Nat.zero_le _, rfl, rfl, H0.out, Lim.refl _ _ _⟩
  case round =>
    obtain ⟨k, pre, hk, rfl, hpre, hj, hlim⟩ := hrel
    have HJR := Lib.hid hj
    have HPRE := Lib.hid hpre
    have HLIM := Lib.hid hlim
    have hlim0 : Lim w0.heap.size Sx w0 wr := (Lim.of_below HW.out (Nat.le_refl _)).trans hlim
    obtain ⟨hmb, hmi⟩ := HK.out wr hlim0
    have HMB := Lib.hid hmb
    have HMI := Lib.hid hmi
    have hzr := hlim0.size
    have k1 := hmb.cell 0
    clear hj hpre hlim hlim0 hmb hmi
    by_cases hlt : k < T
    · gi_upto_region 5 with fail
      clear k1
      generalize wr = wq at *
      gi_loopw [4, 15] (fun o i wx => SbI m k wq o i wx) (fun _ i _ => m.length - (intOf i).toNat)
      case atStart => exact ⟨0, Nat.zero_le _, rfl, ⟨_, _, _, rfl⟩, QRow.nil _ _, Below.refl _ _⟩
      case round =>
        obtain ⟨j, hj, rfl, ⟨ao, no, co, rfl⟩, hq, hb⟩ := hrel
        have HQ := Lib.hid hq
        have HB := Lib.hid hb
        have hln := sbTo_len m k j
        have hzx := hb.size
        by_cases hjl : j < m.length
        · obtain ⟨b, o, e, hbl, hc⟩ := (HMI.out.below hb).at hjl
          subst e
          have hxI : InI (ix m j) := HMI.out.2 j
          have HXI := Lib.hid hxI
          have hbt := bit_test (bits := (k : Int)) (k := j)
          have hmin : min j 64 = j := Nat.min_eq_left (by omega)
          have HN := Lib.hid (sbTo_next m k j)
          clear hq hb hxI
          cases hbb : bitAt k j with
          | true =>
            rw [hbb] at hbt
            rw [hbb, if_pos rfl] at HN
            clear hbb
            have hal := bal (Below.refl wr.heap.size wr) (.cells #[.int .i64 (ix m j)] 3)
            have HQ2 := Lib.hid (HQ.out.below hal)
            have HI2 := Lib.hid ((qrow_box HXI.out wr).ints (by simp))
            clear hal
            gi_wp2_with (gi_at_builtin; refine wpListIn_appendQs rfl _ _ rfl wq.heap.size _ _ (sbTo m k j) [ix m j] rfl rfl HQ2.out HI2.out (by simp only [List.length_singleton]; omega) (by simp; omega) ?_; intro v5 w5 hq5 hg5 ho5; have hb5 := below_grown HB.out (fun g e => (HQ.out.base e).1) hg5; have HB5 := Lib.hid hb5; have HQ5 := Lib.hid hq5; obtain ⟨a5, n5, c5, rfl⟩ := hq5.form; clear hq5 hg5 ho5 hb5)
            first
              | (go_roundw
                 case rel => (exact ⟨j + 1, hjl, by go_num, ⟨_, _, _, rfl⟩, by rw [HN.out]; exact HQ5.out, HB5.out⟩)
                 case measure => (simp [intOf]; omega))
              | (refine ⟨?_, ?_⟩
                 · (exact ⟨j + 1, hjl, by go_num, ⟨_, _, _, rfl⟩, by rw [HN.out]; exact HQ5.out, HB5.out⟩)
                 · (simp [intOf]; omega))
          | false =>
            rw [hbb] at hbt
            rw [hbb, if_neg Bool.false_ne_true] at HN
            clear hbb
            gi_wp2
            first
              | (go_roundw
                 case rel => (exact ⟨j + 1, hjl, by go_num, ⟨_, _, _, rfl⟩, by rw [HN.out]; exact HQ.out, HB.out⟩)
                 case measure => (simp [intOf]; omega))
              | (refine ⟨?_, ?_⟩
                 · (exact ⟨j + 1, hjl, by go_num, ⟨_, _, _, rfl⟩, by rw [HN.out]; exact HQ.out, HB.out⟩)
                 · (simp [intOf]; omega))
        · obtain rfl : j = m.length := by omega
          have HLEN : Hid (pre.length < T) := Lib.hid (by
            have := congrArg List.length HPRE.out
            rw [List.length_map, List.length_range] at this
            omega)
          have hR0 : QRow w0.heap.size wr (.slice ao no co) (sbL m k) := HQ.out.mono hzr
          obtain ⟨fn, tmps, assign, body, hy, hR⟩ := HY.out pre (k, .slice ao no co) _ (AbidesFrom.below HJ.out HJR.out HB.out) hR0 HLEN.out
          have HL9 := Lib.hid (HLIM.out.trans (.of_below HB.out hzr))
          clear hq hb hR0 hln
          simp only at hy
          gi_wp2_with (refine hR.mono ?_; rintro e W6 h6; obtain ⟨bb, rfl, hbt, hbf⟩ := yieldEndR h6; have HBT := Lib.hid hbt; have HBF := Lib.hid hbf; clear hbt hbf h6)
          · cases bb with
            | false =>
              (try gi_wp2)
              refine bodyPost_ret (results_none rfl _ _ _) rfl ?_
              exact ⟨⟨_, rfl⟩, .inr ⟨pre ++ [(k, .slice ao no co)], ⟨k, by rw [HTT.out]; exact hlt, by rw [List.map_append, HPRE.out]; rfl⟩, (by first | exact HBF.out rfl | exact HBF.out trivial)⟩⟩
            | true => exact Bool.noConfusion ‹(!true) = true›
          · cases bb with
            | false => exact Bool.noConfusion ‹(!false) = false›
            | true =>
              first
                | (go_roundw
                   case rel => (exact ⟨k + 1, pre ++ [(k, .slice ao no co)], hlt, by go_num, by rw [List.map_append, HPRE.out, List.range_succ]; rfl, (HBT.out (by first | exact rfl | exact trivial)).1, HL9.out.trans (HBT.out (by first | exact rfl | exact trivial)).2⟩)
                   case measure => (simp [intOf]; omega))
                | (refine ⟨?_, ?_⟩
                   · (exact ⟨k + 1, pre ++ [(k, .slice ao no co)], hlt, by go_num, by rw [List.map_append, HPRE.out, List.range_succ]; rfl, (HBT.out (by first | exact rfl | exact trivial)).1, HL9.out.trans (HBT.out (by first | exact rfl | exact trivial)).2⟩)
                   · (simp [intOf]; omega))
    · obtain rfl : k = T := by omega
      gi_wp2
      go_end0
      exact ⟨⟨_, rfl⟩, .inl ⟨_, by rw [HPRE.out, HTT.out], HJR.out⟩⟩
end Go.Proofs.YtjodocheiejkeaaGreatDoor
