/- reduct: the iterator reduced$1: its contract. -/
import Derived.Test.YtdoecchigfdilaaRdc5Q
import Derived.Sort.CutIn
namespace Go.Proofs.Ytdoecchigfdilaa
open Go.RowKit
attribute [local go_sem] Oper.semAt_some memUpon


theorem yieldEndR {e : Ending} {A B : Prop} (h : (e = .returned (.bool true) ∧ A) ∨ (e = .returned (.bool false) ∧ B)) : ∃ b, e = .returned (.bool b) ∧ (b = true → A) ∧ (b = false → B) := by
  rcases h with ⟨rfl, h⟩ | ⟨rfl, h⟩
  · exact ⟨true, rfl, fun _ => h, fun e => (Bool.noConfusion e)⟩
  · exact ⟨false, rfl, (fun e => Bool.noConfusion e), fun _ => h⟩

def RdSlots (p : GP) (m : List Int) (n0 rb : Nat) (W0 : World) (J : List RQ → World → Prop) (i : Value) (wr : World) : Prop :=
  ∃ (k : Nat) (pre : List RQ), k ≤ p.rules.length ∧ i = .int .i64 k ∧ rqs pre = redTo p m k ∧ J pre wr ∧ Lim n0 [rb] W0 wr ∧ Hid (∀ g, rowOf rb wr = some g → g < wr.heap.size)

set_option maxHeartbeats 4000000 in
set_option maxRecDepth 100000 in
theorem reduced_stops (p : GP) (m : List Int) (wi w0 : World) (vn vs vr vm : Value) (hP : ProgIs wi (.agg #[.int .i64 p.n, vn, vs, vr, vm]) p) (rb pb fb mb : Nat)
    (hst : RedSt wi w0 m pb fb mb rb [.int .i64 p.n, vn, vs, vr, vm]) (hv : validE p = 0) (n : Nat) (hn : 1 ≤ n) :
    SeqStopsR Fence.wide n Try.prog 103 #[.pointer (some ⟨pb, 0, none⟩), .pointer (some ⟨fb, 0, none⟩)] redEnc (RKp w0.heap.size rb) (RedR w0.heap.size)
      (fun xs => rqs xs = redL p m) (fun _ => True) (redL p m).length w0 := by
  intro l J Jx W hW hJ hJx hY h0
  obtain ⟨vn', vs', vr', vm', e, hPS⟩ := hP
  simp only [Value.agg.injEq, Array.mk.injEq, List.cons.injEq, and_true] at e
  obtain ⟨-, rfl, rfl, rfl, rfl⟩ := e
  obtain ⟨a1, c1, rfl, -, hl1, -, hcell⟩ := hPS.rules.form
  have HST := Lib.hid hst
  have HY := Lib.hid hY
  have HJ := Lib.hid hJ
  have HJX := Lib.hid hJx
  have H0 := Lib.hid h0
  have HW := Lib.hid hW
  have HCELL := Lib.hid hcell
  have HPS := Lib.hid hPS
  have hpbl := hst.pb.lt
  have hfbl := hst.fb.lt
  have hrbl := hst.row.lt
  have hrlo := hst.rlo
  have hN := hst.below.size
  have hpne := hst.pb.ne_ty hst.row (by decide)
  have hfne := hst.fb.ne_ty hst.row (by decide)
  have hr0 : Hid (∀ g, rowOf rb W = some g → g < W.heap.size) := Lib.hid (fun g hg => by
    rw [rowOf_same (hW.block rb hrbl)] at hg
    unfold rowOf at hg
    rw [hst.row.cell 0] at hg
    cases hg)
  have kp := (hst.pb.below hW).cell
  have hzW := hW.size
  have HBW := Lib.hid (bodyW_valid hv)
  clear hst hY hJ hJx h0 hW hcell hPS
  refine callsIn_of_wp Try.func103 rfl trivial ?_ rfl
  simp only [Try.ntmps103, List.size_toArray, List.length_cons, List.length_nil, Nat.reduceAdd, Nat.reduceSub, Array.replicate_succ, Array.replicate_zero, List.push_toArray, List.append_toArray, List.nil_append, List.cons_append]
  gi_wp2
  clear kp
  gi_loopw [14] (fun i wr => RdSlots p m w0.heap.size rb W J i wr) (fun i _ => p.rules.length - (intOf i).toNat)
  case atStart => exact ⟨0, [], Nat.zero_le _, rfl, rfl, H0.out, Lim.refl _ _ _, hr0⟩
  case round =>
    obtain ⟨k, pre, hk, rfl, hpre, hj, hlim, HRW⟩ := hrel
    have HJR := Lib.hid hj
    have HPRE := Lib.hid hpre
    have HLIM := Lib.hid hlim
    have hlim0 : Lim w0.heap.size [rb] w0 wr := (Lim.of_below HW.out (Nat.le_refl _)).trans hlim
    have HBWI : Hid (Below wi.heap.size wi wr) := Lib.hid (HST.out.below.trans ((hlim0.mono hN (fun i hi _ => hi)).below (fun i hi => by simp only [List.mem_singleton] at hi; omega)))
    have HPB := Lib.hid (HST.out.pb.lim hlim0 hpbl hpne)
    have HFB := Lib.hid (HST.out.fb.lim hlim0 hfbl hfne)
    have HIN := Lib.hid (HST.out.inm.lim HST.out.row hlim0)
    have hzr := hlim0.size
    clear hj hpre hlim hlim0
    by_cases hlt : k < p.rules.length
    · obtain ⟨b, off, rfl, hbl, hc⟩ := HCELL.out (by omega)
      obtain ⟨vh, vb, vw, ⟨k0, k1, k2, k3, k4, k5⟩, hsl⟩ := hc k hlt
      have hbw := HBWI.out
      have hk0 := (bcell hbw _ _ hbl).trans k0
      have hk1 := (bcell hbw _ _ hbl).trans k1
      have hk2 := (bcell hbw _ _ hbl).trans k2
      have hk3 := (bcell hbw _ _ hbl).trans k3
      have hk4 := (bcell hbw _ _ hbl).trans k4
      have hk5 := (bcell hbw _ _ hbl).trans k5
      have HSL := Lib.hid hsl
      obtain ⟨ah, ch, rfl, -, hlh, -, -⟩ := hsl.head.form
      obtain ⟨ab, cb, rfl, -, hlb, -, -⟩ := hsl.body.form
      obtain ⟨aw, cw, rfl, -, hlw, -, -⟩ := hsl.wts.form
      clear hc k0 k1 k2 k3 k4 k5 hsl hbw
      have hal := bal (Below.refl wr.heap.size wr) (.cells #[.bool (ixR p.rules k).choice, .slice ah (ixR p.rules k).head.length ch, .bool (ixR p.rules k).sum, .int .i64 (ixR p.rules k).bound, .slice ab (ixR p.rules k).body.length cb, .slice aw (ixR p.rules k).w.length cw] 41)
      have HBR := Lib.hid (Blk.new wr [.bool (ixR p.rules k).choice, .slice ah (ixR p.rules k).head.length ch, .bool (ixR p.rules k).sum, .int .i64 (ixR p.rules k).bound, .slice ab (ixR p.rules k).body.length cb, .slice aw (ixR p.rules k).w.length cw] 41)
      have HRI : Hid (RuleIs (wr.alloc (.cells #[.bool (ixR p.rules k).choice, .slice ah (ixR p.rules k).head.length ch, .bool (ixR p.rules k).sum, .int .i64 (ixR p.rules k).bound, .slice ab (ixR p.rules k).body.length cb, .slice aw (ixR p.rules k).w.length cw] 41)) (.agg #[.bool (ixR p.rules k).choice, .slice ah (ixR p.rules k).head.length ch, .bool (ixR p.rules k).sum, .int .i64 (ixR p.rules k).bound, .slice ab (ixR p.rules k).body.length cb, .slice aw (ixR p.rules k).w.length cw]) (ixR p.rules k)) := Lib.hid ⟨_, _, _, rfl, HSL.out.below (bon HBWI.out hal)⟩
      have HAL := Lib.hid hal
      have HFB1 := HFB.out.below hal
      have kf1 := HFB1.cell 0
      have HIN1 := Lib.hid (HIN.out.below hal)
      clear hal HFB1
      have HRW1 : Hid (∀ w', Below wr.heap.size wr w' → rowOf rb w' = rowOf rb wr) := Lib.hid (fun w' hb => rowOf_same (hb.block rb (by omega)))
      cases hr : redB m (ixR p.rules k) with
      | none =>
        have HR := Lib.hid hr
        clear hr
        gi_wp2_with (refine ⟨trivial, ?_⟩; gi_at_call 104; refine (callsIn_wide.2 ((positive_any _ (ixR p.rules k) m mb p.n _ HRI.out HIN1.out (HBW.out k hlt)).mono fun _ _ hp => posOut_none HR.out hp)).mono ?_; rintro e w2 ⟨rfl, hb2⟩; have HB2 := Lib.hid (bon HAL.out hb2); clear hb2)
        have HB3 := Lib.hid (bal HB2.out (.cells #[.bool false, .slice none 0 0, .bool false, .int .i64 0, .slice none 0 0, .slice none 0 0] 41))
        first
          | (go_roundw
             case rel => (exact ⟨k + 1, pre, hlt, by go_num, by rw [HPRE.out, redTo_none HR.out], AbidesFrom.below HJ.out HJR.out HB3.out, HLIM.out.trans (.of_below HB3.out (by omega)), Lib.hid ((CK.below HB3.out (by omega)).1 HRW.out)⟩)
             case measure => (simp [intOf]; omega))
          | (refine ⟨?_, ?_⟩
             · (exact ⟨k + 1, pre, hlt, by go_num, by rw [HPRE.out, redTo_none HR.out], AbidesFrom.below HJ.out HJR.out HB3.out, HLIM.out.trans (.of_below HB3.out (by omega)), Lib.hid ((CK.below HB3.out (by omega)).1 HRW.out)⟩)
             · (simp [intOf]; omega))
      | some x =>
        have HR := Lib.hid hr
        have HRF := Lib.hid (red_form (HBW.out k hlt) hr)
        clear hr
        cases hch : (ixR p.rules k).choice with
        | false =>
          have HCH := Lib.hid hch
          have HLEN : Hid (pre.length < (redL p m).length) := Lib.hid (by
            have h1 := redTo_mono (p := p) (m := m) p.rules.length (k + 1) (by omega)
            rw [redTo_plain HR.out HCH.out, List.length_append, List.length_singleton, ← HPRE.out, rqs_len] at h1
            exact h1)
          rw [hch] at HRI HBR HAL HIN1 kf1 hk0
          clear hch
          gi_wp2_with (first
            | (refine ⟨trivial, ?_⟩; gi_at_call 104; refine (callsIn_wide.2 ((positive_any _ (ixR p.rules k) m mb p.n _ HRI.out HIN1.out (HBW.out k hlt)).mono fun _ _ hp => posOut_some HR.out hp)).mono ?_; rintro e w2 ⟨a2, n2, c2, a3, n3, c3, rfl, hqa, hqb, hb2⟩; have HB2 := Lib.hid (bon HAL.out hb2); have HQA := Lib.hid hqa; have HQB := Lib.hid hqb; have kb5 := (HBR.out.below hb2).cell; have z5 := Nat.lt_of_lt_of_le HBR.out.lt hb2.size; have HB5 := Lib.hid (HBR.out.below hb2); have ka5 := fun ob o => (bcell (bal (Below.refl _ w2) ob) wr.heap.size o z5).trans (kb5 o); clear hqa hqb hb2)
            | (refine ⟨trivial, ?_⟩; gi_at_call 46; refine (callsIn_wide.2 (cloneI_sl _ _ _ (HSL.out.head.below (bon HBWI.out (bal HB2.out _))))).mono ?_; rintro e w4 ⟨a4, c4, rfl, ho4, hb4⟩; have hblk := (Blk.new w2 [.bool false, .slice none 0 0, .bool x.sum, .int .i64 x.bound, .slice a2 n2 c2, .slice a3 n3 c3] 41).below hb4; have kb6 := hblk.cell; have fb6 := hblk.free; have hb24 := bon (bal (Below.refl w2.heap.size w2) (.cells #[.bool false, .slice none 0 0, .bool x.sum, .int .i64 x.bound, .slice a2 n2 c2, .slice a3 n3 c3] 41)) hb4; have hz2 := HB2.out.size; have HB7 : Hid (Below wr.heap.size wr (w4.setCell ⟨w2.heap.size, 1, none⟩ (.slice a4 (ixR p.rules k).head.length c4))) := Lib.hid ((bon HB2.out hb24).setCell (p := ⟨w2.heap.size, 1, none⟩) hz2 _); have HRR : Hid (RedR w0.heap.size (withHead x (ixR p.rules k).head, .slice a4 (ixR p.rules k).head.length c4, .slice a2 n2 c2, .slice a3 n3 c3) (w4.setCell ⟨w2.heap.size, 1, none⟩ (.slice a4 (ixR p.rules k).head.length c4))) := Lib.hid ⟨HRF.out.1, ((QRow.of_own ho4).setFar 1 _ (by simp)).mono (by simp; omega), (HQA.out.boxed hb24 1 _).mono (by simp; omega), (HQB.out.boxed hb24 1 _).mono (by simp; omega), HRF.out.2.2⟩; obtain ⟨fn, tmps, assign, body, hy, hR⟩ := HY.out pre _ _ (AbidesFrom.below HJ.out HJR.out HB7.out) HRR.out HLEN.out; simp only [redEnc, withHead] at hy; clear hb24 hz2 ho4 hb4 hblk)
            | (refine hR.mono ?_; rintro e W6 h6; obtain ⟨bb, rfl, hbt, hbf⟩ := yieldEndR h6; have HBT := Lib.hid hbt; have HBF := Lib.hid hbf; clear hbt hbf h6))
          · cases bb with
            | false =>
              (try gi_wp2)
              refine bodyPost_ret (results_none rfl _ _ _) rfl ?_
              exact ⟨⟨_, rfl⟩, .inr ⟨_, (by first | exact ⟨trivial, HBF.out rfl⟩ | exact HBF.out rfl | exact ⟨trivial, HBF.out trivial⟩ | exact HBF.out trivial)⟩⟩
            | true => exact Bool.noConfusion ‹(!true) = true›
          · cases bb with
            | false => exact Bool.noConfusion ‹(!false) = false›
            | true =>
              first
                | (go_roundw
                   case rel => (exact ⟨k + 1, pre ++ [_], hlt, by go_num, by rw [rqs_snoc, HPRE.out, redTo_plain HR.out HCH.out], (HBT.out (by first | exact rfl | exact trivial)).1, (HLIM.out.trans (.of_below HB7.out (by omega))).trans (HBT.out (by first | exact rfl | exact trivial)).2.1, Lib.hid ((HBT.out (by first | exact rfl | exact trivial)).2.2.1 ((CK.below HB7.out (by omega)).1 HRW.out))⟩)
                   case measure => (simp [intOf]; omega))
                | (refine ⟨?_, ?_⟩
                   · (exact ⟨k + 1, pre ++ [_], hlt, by go_num, by rw [rqs_snoc, HPRE.out, redTo_plain HR.out HCH.out], (HBT.out (by first | exact rfl | exact trivial)).1, (HLIM.out.trans (.of_below HB7.out (by omega))).trans (HBT.out (by first | exact rfl | exact trivial)).2.1, Lib.hid ((HBT.out (by first | exact rfl | exact trivial)).2.2.1 ((CK.below HB7.out (by omega)).1 HRW.out))⟩)
                   · (simp [intOf]; omega))
        | true =>
          have HCH := Lib.hid hch
          have HXL := Lib.hid (red_len HR.out)
          have hbl0 := (HBW.out k hlt).v.ok.len
          rw [hch] at HRI HBR HAL HIN1 kf1 hk0
          clear hch
          gi_wp2_with (refine ⟨trivial, ?_⟩; gi_at_call 104; refine (callsIn_wide.2 ((positive_any _ (ixR p.rules k) m mb p.n _ HRI.out HIN1.out (HBW.out k hlt)).mono fun _ _ hp => posOut_some HR.out hp)).mono ?_; rintro e w2 ⟨a2, n2, c2, a3, n3, c3, rfl, hqa, hqb, hb2⟩; have HB2 := Lib.hid (bon HAL.out hb2); have HQA := Lib.hid hqa; have HQB := Lib.hid hqb; have kb5 := (HBR.out.below hb2).cell; have z5 := Nat.lt_of_lt_of_le HBR.out.lt hb2.size; have HB5 := Lib.hid (HBR.out.below hb2); have ka5 := fun ob o => (bcell (bal (Below.refl _ w2) ob) wr.heap.size o z5).trans (kb5 o); clear hqa hqb hb2)
          have HB3 := Lib.hid (bal HB2.out (.cells #[.bool false, .slice none 0 0, .bool x.sum, .int .i64 x.bound, .slice a2 n2 c2, .slice a3 n3 c3] 41))
          have HN6 := Lib.hid (Blk.new w2 [.bool false, .slice none 0 0, .bool x.sum, .int .i64 x.bound, .slice a2 n2 c2, .slice a3 n3 c3] 41)
          have HR3 : Hid (rowOf rb (w2.alloc (.cells #[.bool false, .slice none 0 0, .bool x.sum, .int .i64 x.bound, .slice a2 n2 c2, .slice a3 n3 c3] 41)) = rowOf rb wr) := Lib.hid (rowOf_same (HB3.out.block rb (by omega)))
          clear kb5 ka5
          generalize wr = wq at *
          gi_loopw [27] (fun i wr => ChSlots p m w0.heap.size rb k x (ixR p.rules k).head W J (ChSt rb (wq.heap.size + 1) wq.heap.size w2.heap.size [.bool true, .slice ah (ixR p.rules k).head.length ch, .bool (ixR p.rules k).sum, .int .i64 (ixR p.rules k).bound, .slice ab (ixR p.rules k).body.length cb, .slice aw (ixR p.rules k).w.length cw] [.bool false, .slice none 0 0, .bool x.sum, .int .i64 x.bound, .slice a2 n2 c2, .slice a3 n3 c3] (.slice a2 n2 c2) (.slice a3 n3 c3) x.body x.w) i wr) (fun i _ => (ixR p.rules k).head.length - (intOf i).toNat)
          case atStart =>
            have hd2 := bal (Below.refl w2.heap.size w2) (.cells #[.bool false, .slice none 0 0, .bool x.sum, .int .i64 x.bound, .slice a2 n2 c2, .slice a3 n3 c3] 41)
            refine ⟨0, pre, Nat.zero_le _, rfl, by rw [HPRE.out]; simp [redCh], AbidesFrom.below HJ.out HJR.out HB3.out, HLIM.out.trans (.of_below HB3.out (by omega)), ?_⟩
            refine ⟨(CK.below HB3.out (by omega)).1 HRW.out, HB5.out.below hd2, ?_, HN6.out, ?_, (HQA.out.below hd2).mono (by simp), ?_, (HQB.out.below hd2).mono (by simp), ?_, by omega, by omega, by omega, by have := hd2.size; omega⟩
            · intro e; rw [HR3.out] at e; have := HRW.out _ e; omega
            · intro e; rw [HR3.out] at e; have := HRW.out _ e; omega
            · intro i hi e; rw [HR3.out] at e; have := HRW.out _ e; exact HQA.out.own_ne (.inl (by simp; omega)) hi
            · intro i hi e; rw [HR3.out] at e; have := HRW.out _ e; exact HQB.out.own_ne (.inl (by simp; omega)) hi
          case round =>
            obtain ⟨j, pre2, hj2, rfl, hpre2, hjy, hlimy, hsty⟩ := hrel
            have HPRE2 := Lib.hid hpre2
            have HJY := Lib.hid hjy
            have HLIMY := Lib.hid hlimy
            have HSTY := Lib.hid hsty
            have hlim1 : Lim w0.heap.size [rb] w0 wr := (Lim.of_below HW.out (Nat.le_refl _)).trans hlimy
            have HBWY : Hid (Below wi.heap.size wi wr) := Lib.hid (HST.out.below.trans ((hlim1.mono hN (fun i hi _ => hi)).below (fun i hi => by simp only [List.mem_singleton] at hi; omega)))
            have HFBY := HST.out.fb.lim hlim1 hfbl hfne
            have kfy := HFBY.cell 0
            have HINY := Lib.hid (HST.out.inm.lim HST.out.row hlim1)
            have hzy := hlim1.size
            have hty := hsty.top
            have k6 := hsty.b6.cell
            have hl6 := hsty.b6.lt
            clear hpre2 hjy hlimy hsty hlim1 HFBY
            by_cases hlt2 : j < (ixR p.rules k).head.length
            · obtain ⟨b2, o2, rfl, hbl2, hc2⟩ := HSL.out.head.at hlt2
              have hc2y := (bcell HBWY.out _ _ hbl2).trans hc2
              have HFA : Hid (InI (ix (ixR p.rules k).head j)) := Lib.hid (HSL.out.head.2 j)
              cases hmb : decide (ix (ixR p.rules k).head j ∈ m) with
              | false =>
                have HMB := Lib.hid hmb
                clear hmb
                gi_wp2_with (refine ⟨trivial, ?_⟩; gi_at_call 93; refine (callsIn_wide.2 (memb1_any _ m _ _ HINY.out)).mono ?_; rintro e w1 ⟨e1, rfl⟩; rw [HMB.out] at e1; subst e1)
                first
                  | (go_roundw
                     case rel => (exact ⟨j + 1, pre2, hlt2, by go_num, by rw [HPRE2.out, redCh_out hlt2 HMB.out], HJY.out, HLIMY.out, HSTY.out⟩)
                     case measure => (simp [intOf]; omega))
                  | (refine ⟨?_, ?_⟩
                     · (exact ⟨j + 1, pre2, hlt2, by go_num, by rw [HPRE2.out, redCh_out hlt2 HMB.out], HJY.out, HLIMY.out, HSTY.out⟩)
                     · (simp [intOf]; omega))
              | true =>
                have HMB := Lib.hid hmb
                clear hmb
                have HLEN : Hid (pre2.length < (redL p m).length) := Lib.hid (ch_len HR.out HCH.out hlt hlt2 HMB.out HPRE2.out)
                gi_upto_region 9 with (refine ⟨trivial, ?_⟩; gi_at_call 93; refine (callsIn_wide.2 (memb1_any _ m _ _ HINY.out)).mono ?_; rintro e w1 ⟨e1, rfl⟩; rw [HMB.out] at e1; subst e1)
                have hal := bal (Below.refl wr.heap.size wr) (.cells #[.bool false, .slice none 0 0, .bool x.sum, .int .i64 x.bound, .slice a2 n2 c2, .slice a3 n3 c3] 41)
                have HBX := Lib.hid hal
                have HB10 := Lib.hid (Blk.new wr [.bool false, .slice none 0 0, .bool x.sum, .int .i64 x.bound, .slice a2 n2 c2, .slice a3 n3 c3] 41)
                have HS1 := Lib.hid (HSTY.out.below hal)
                have kz : wr.heap.size < (wr.alloc (.cells #[.bool false, .slice none 0 0, .bool x.sum, .int .i64 x.bound, .slice a2 n2 c2, .slice a3 n3 c3] 41)).heap.size := HB10.out.lt
                clear hal hc2y kfy k6
                generalize wr.alloc (.cells #[.bool false, .slice none 0 0, .bool x.sum, .int .i64 x.bound, .slice a2 n2 c2, .slice a3 n3 c3] 41) = W1 at *
                have kr6 : ∀ e : Ext W1, ∀ o, e.world.cell? ⟨w2.heap.size, o, none⟩ = [Value.bool false, .slice none 0 0, .bool x.sum, .int .i64 x.bound, .slice a2 n2 c2, .slice a3 n3 c3][o]? := fun e o => (bcell e.below _ o HS1.out.b6.lt).trans (HS1.out.b6.cell o)
                refine wpIn_wide.2 ?_
                refine wp_region_tail' 9 (fun _ => True) (chΦ W1.heap.size (ix (ixR p.rules k).head j) x) (fun i => i == 1 || i == 4 || i == 7) (by kernel_rfl) (by kernel_rfl) (by kernel_rfl) (fun _ _ => trivial) (chΦ_later _ _ _) ?_
                simp only [List.take_succ_cons, List.take_zero, List.drop_succ_cons, List.drop_zero]
                iterate 1 (refine walkP_head (by kernel_rfl) rfl rfl rfl (fun K hK => ?_); go_big_quiet_op; refine hK _ ?_; clear hK K)
                refine walkP_mem rfl rfl (fun wa hba hFa => ?_) (fun v1 lo1 hi1 l1 g1 h1 => ?_)
                · go_simp
                  exact ⟨bal (Below.refl _ _) _, _, _, rfl, QRow.one (Blk.new wa [.int .i64 (ix (ixR p.rules k).head j)] _) hba.size HFA.out⟩
                obtain ⟨_, xa1, ca1, rfl, -⟩ := h1
                simp only [Act.put, List.setIfInBounds_toArray, List.set_cons_succ, List.set_cons_zero]
                iterate 2 (refine walkP_head (by kernel_rfl) rfl rfl rfl (fun K hK => ?_); go_big_quiet_op; refine hK _ ?_; clear hK K)
                refine walkP_mem rfl rfl (fun wa hba hFa => ?_) (fun v4 lo4 hi4 l4 g4 h4 => ?_)
                · go_simp
                  refine (cloneI_sl _ x.body _ ((HS1.out.qa.below hba).ints (by have := HXL.out.1; omega))).mono ?_
                  rintro e wz ⟨xz, yz, rfl, ho, hb⟩
                  exact ⟨_, rfl, hb, xz, yz, rfl, (QRow.of_own ho).mono hba.size⟩
                obtain ⟨_, xa4, ca4, rfl, -⟩ := h4
                simp only [Act.put, List.setIfInBounds_toArray, List.set_cons_succ, List.set_cons_zero]
                iterate 2 (refine walkP_head (by kernel_rfl) rfl rfl rfl (fun K hK => ?_); go_big_quiet_op; refine hK _ ?_; clear hK K)
                refine walkP_mem rfl rfl (fun wa hba hFa => ?_) (fun v7 lo7 hi7 l7 g7 h7 => ?_)
                · go_simp
                  refine (cloneI_sl _ x.w _ ((HS1.out.qb.below hba).ints (by have := HXL.out.2; omega))).mono ?_
                  rintro e wz ⟨xz, yz, rfl, ho, hb⟩
                  exact ⟨_, rfl, hb, xz, yz, rfl, (QRow.of_own ho).mono hba.size⟩
                obtain ⟨_, xa7, ca7, rfl, -⟩ := h7
                simp only [Act.put, List.setIfInBounds_toArray, List.set_cons_succ, List.set_cons_zero]
                iterate 1 (refine walkP_head (by kernel_rfl) rfl rfl rfl (fun K hK => ?_); go_big_quiet_op; refine hK _ ?_; clear hK K)
                intro wx hbx hF hI hP
                have f7 := hF _ (.head _)
                have f4 := hF _ (.tail _ (.head _))
                have f1 := hF _ (.tail _ (.tail _ (.head _)))
                obtain ⟨_, _, e7, F7⟩ := f7
                obtain ⟨_, _, e4, F4⟩ := f4
                obtain ⟨_, _, e1, F1⟩ := f1
                clear hF hI hP
                have kx := fun o => (bcell hbx _ o HB10.out.lt).trans (HB10.out.cell o)
                have kf := fun o => (bfrozen hbx _ o HB10.out.lt).trans (HB10.out.free o)
                have HF7 := Lib.hid F7
                have HF4 := Lib.hid F4
                have HF1 := Lib.hid F1
                have HBXX := Lib.hid hbx
                clear e7 e4 e1 F7 F4 F1
                iterate 5 (refine ⟨rfl, rfl, ?_⟩; go_simp)
                simp only [tailW]
                have hrc := HB10.out.below hbx
                have HRC : Hid (Blk (((wx.setCell ⟨wr.heap.size, 1, none⟩ (.slice xa1 1 ca1)).setCell ⟨wr.heap.size, 4, none⟩ (.slice xa4 x.body.length ca4)).setCell ⟨wr.heap.size, 5, none⟩ (.slice xa7 x.w.length ca7)) wr.heap.size [.bool false, .slice xa1 1 ca1, .bool x.sum, .int .i64 x.bound, .slice xa4 x.body.length ca4, .slice xa7 x.w.length ca7] 41) := Lib.hid (((hrc.set 1 _).set 4 _).set 5 _)
                have HBW5 : Hid (Below wr.heap.size wr (((wx.setCell ⟨wr.heap.size, 1, none⟩ (.slice xa1 1 ca1)).setCell ⟨wr.heap.size, 4, none⟩ (.slice xa4 x.body.length ca4)).setCell ⟨wr.heap.size, 5, none⟩ (.slice xa7 x.w.length ca7))) := Lib.hid ((((bon HBX.out hbx).setCell (Nat.le_refl _) _).setCell (Nat.le_refl _) _).setCell (Nat.le_refl _) _)
                have keep : ∀ (u : Value) (l : List Int), QRow W1.heap.size wx u l → QRow W1.heap.size (((wx.setCell ⟨wr.heap.size, 1, none⟩ (.slice xa1 1 ca1)).setCell ⟨wr.heap.size, 4, none⟩ (.slice xa4 x.body.length ca4)).setCell ⟨wr.heap.size, 5, none⟩ (.slice xa7 x.w.length ca7)) u l := fun u l h =>
                  h.kept fun i hi _ _ => (Below.heap_setCell _ _ _ _ (show i ≠ wr.heap.size by omega)).trans ((Below.heap_setCell _ _ _ _ (show i ≠ wr.heap.size by omega)).trans (Below.heap_setCell _ _ _ _ (show i ≠ wr.heap.size by omega)))
                have HRR : Hid (RedR w0.heap.size (withHead x [ix (ixR p.rules k).head j], .slice xa1 1 ca1, .slice xa4 x.body.length ca4, .slice xa7 x.w.length ca7) (((wx.setCell ⟨wr.heap.size, 1, none⟩ (.slice xa1 1 ca1)).setCell ⟨wr.heap.size, 4, none⟩ (.slice xa4 x.body.length ca4)).setCell ⟨wr.heap.size, 5, none⟩ (.slice xa7 x.w.length ca7))) :=
                  Lib.hid ⟨HRF.out.1, (keep _ _ HF1.out).mono (by omega), (keep _ _ HF4.out).mono (by omega), (keep _ _ HF7.out).mono (by omega), HRF.out.2.2⟩
                clear keep hrc kx kf HF1 HF4 HF7 kr6 hbx
                generalize ((wx.setCell ⟨wr.heap.size, 1, none⟩ (.slice xa1 1 ca1)).setCell ⟨wr.heap.size, 4, none⟩ (.slice xa4 x.body.length ca4)).setCell ⟨wr.heap.size, 5, none⟩ (.slice xa7 x.w.length ca7) = W5 at *
                have HJ5 := Lib.hid (AbidesFrom.below HJ.out HJY.out HBW5.out)
                have HS5 := Lib.hid (HSTY.out.below HBW5.out)
                have k10 := HRC.out.cell
                have hz5 := HBW5.out.size
                obtain ⟨fn, tmps, assign, body, hy, hR⟩ := HY.out pre2 _ _ HJ5.out HRR.out HLEN.out
                simp only [redEnc, withHead] at hy
                gi_wp2_with (refine hR.mono ?_; rintro e W6 h6; obtain ⟨bb, rfl, hbt, hbf⟩ := yieldEndR h6; have HBT := Lib.hid hbt; have HBF := Lib.hid hbf; clear hbt hbf h6)
                · cases bb with
                  | false =>
                    (try gi_wp2)
                    refine bodyPost_ret (results_none rfl _ _ _) rfl ?_
                    exact ⟨⟨_, rfl⟩, .inr ⟨_, (by first | exact ⟨trivial, HBF.out rfl⟩ | exact HBF.out rfl | exact ⟨trivial, HBF.out trivial⟩ | exact HBF.out trivial)⟩⟩
                  | true => exact Bool.noConfusion ‹(!true) = true›
                · cases bb with
                  | false => exact Bool.noConfusion ‹(!false) = false›
                  | true =>
                    have hbt := HBT.out (by first | exact rfl | exact trivial)
                    first
                      | (go_roundw
                         case rel => (exact ⟨j + 1, pre2 ++ [_], hlt2, by go_num, by rw [rqs_snoc, HPRE2.out, redCh_in hlt2 HMB.out, List.append_assoc], hbt.1, (HLIMY.out.trans (.of_below HBW5.out (by omega))).trans hbt.2.1, HS5.out.ck hbt.2.2 hbt.2.1.size⟩)
                         case measure => (simp [intOf]; omega))
                      | (refine ⟨?_, ?_⟩
                         · (exact ⟨j + 1, pre2 ++ [_], hlt2, by go_num, by rw [rqs_snoc, HPRE2.out, redCh_in hlt2 HMB.out, List.append_assoc], hbt.1, (HLIMY.out.trans (.of_below HBW5.out (by omega))).trans hbt.2.1, HS5.out.ck hbt.2.2 hbt.2.1.size⟩)
                         · (simp [intOf]; omega))
            · obtain rfl : j = (ixR p.rules k).head.length := by omega
              gi_wp2
              first
                | (go_roundw
                   case rel => (exact ⟨k + 1, pre2, hlt, by go_num, by rw [HPRE2.out, redTo_choice HR.out HCH.out], HJY.out, HLIMY.out, Lib.hid HSTY.out.row⟩)
                   case measure => (simp [intOf]; omega))
                | (refine ⟨?_, ?_⟩
                   · (exact ⟨k + 1, pre2, hlt, by go_num, by rw [HPRE2.out, redTo_choice HR.out HCH.out], HJY.out, HLIMY.out, Lib.hid HSTY.out.row⟩)
                   · (simp [intOf]; omega))
    · gi_wp2
      go_end0
      first
        | exact ⟨⟨_, rfl⟩, .inl ⟨pre, HPRE.out, HJR.out⟩⟩
        | (obtain rfl : k = p.rules.length := by omega
           exact ⟨⟨_, rfl⟩, .inl ⟨pre, HPRE.out, HJR.out⟩⟩)

end Go.Proofs.Ytdoecchigfdilaa
