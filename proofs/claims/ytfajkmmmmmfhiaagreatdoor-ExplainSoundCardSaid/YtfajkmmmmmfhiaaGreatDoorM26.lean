/- My texts Rdc5, Rdc4, RowK, St3, Rdc6, merged. -/
import Derived.Test.YtfajkmmmmmfhiaaGreatDoorM25
import Derived.Test.YtfajkmmmmmfhiaaGreatDoorM07
import Derived.Test.YtfajkmmmmmfhiaaGreatDoorM24
import Derived.Test.YtfajkmmmmmfhiaaGreatDoorM06
import Derived.Test.YtfajkmmmmmfhiaaGreatDoorM05
import Derived.Test.YtfajkmmmmmfhiaaGreatDoorM04
import Derived.Test.YtfajkmmmmmfhiaaGreatDoorM22
import Derived.Test.YtfajkmmmmmfhiaaGreatDoorM03
import Derived.Test.YtfajkmmmmmfhiaaGreatDoorM00
import Derived.Test.YtfajkmmmmmfhiaaGreatDoorProg
import Derived.WalkKit
import Derived.Lib.Hide
import Derived.Deep.QuietTactic
import Derived.BigQuiet
import Derived.WalkSpells
import Derived.Lib.SliceRun
import Derived.MapKept
import Derived.Maps.OwnSet
import Derived.Maps.OwnOps
import Derived.Test.YtfajkmmmmmfhiaaGreatDoorM02
import Derived.Test.YtfajkmmmmmfhiaaGreatDoorM20
import Derived.Test.YtfajkmmmmmfhiaaGreatDoorM01
import Derived.Deep.AppendLies
import Derived.Lib.Bytealg
import Derived.Deep.DeepCutAuto
import Derived.Laws.EntriesVeiled
import Derived.Deep.RegionWith
import Derived.Deep.OwnRows
import Derived.RangeFuncNested
import Derived.RangeFuncBound
import Derived.RangeFuncCalls
import Derived.RangeFuncLeaves
import Derived.OwnWalkIn
import Derived.TacticsInMore
import Derived.LoopNIn
import Derived.LoopIn
import Derived.Stop.RegionWithIn
import Derived.Shelf.Abstract
import Derived.Test.YtfajkmmmmmfhiaaGreatDoorM23
import Derived.Deep.LoopGhost
import Derived.Deep.DrawnRows
import Derived.Deep.RegionHeld3
import Derived.Laws.ResultCell
import Derived.Laws.Rows
import Derived.Deep.RegionLaw
import Derived.Test.YtfajkmmmmmfhiaaGreatDoorM09
import Derived.Deep.AppendSrc
import Derived.Sort.CutIn
import Derived.Test.YtfajkmmmmmfhiaaGreatDoorM12
import Derived.Test.YtfajkmmmmmfhiaaGreatDoorM14
import Derived.Sort.QuietThIn
import Derived.Test.YtfajkmmmmmfhiaaGreatDoorM15
import Derived.Maps.RangeWalk
import Derived.Lib.SlicesCompact
import Derived.Shelf.Sort.Plain
import Derived.Shelf.Slices.CompactI
import Derived.Shelf.Slices.In.SortNone
import Derived.Shelf.Strconv.Itoa3
import Derived.Shelf.Strings.BuilderK
import Derived.Shelf.Slices.SearchI
import Derived.Shelf.Slices.Empties
import Derived.Sort.OwnSortedInts
import Derived.RangeFuncBox
import Derived.Maps.OwnIn
import Derived.Lib.RowBridge
import Derived.Deep.DeepMust
import Derived.Test.YtfajkmmmmmfhiaaGreatDoorM13
import Derived.Test.YtfajkmmmmmfhiaaGreatDoorM11
import Derived.Test.YtfajkmmmmmfhiaaGreatDoorM17
import Derived.ProofKit
import Derived.OpenShut
import Derived.ChangeArms
import Derived.SizedLaws

namespace Go.Proofs.YtfajkmmmmmfhiaaGreatDoor
open Go.RowKit
theorem red_len {m : List Int} {r x : GR} (h : redB m r = some x) : x.body.length ≤ r.body.length ∧ x.w.length ≤ r.body.length := by
  have hp := posP_len r r.body.length
  unfold redB at h
  split at h
  · cases h
  · split at h
    · cases h
      simp [emptyR]
    · cases h
      refine ⟨by show (fstL _).length ≤ _; rw [fstL]; simpa using hp, ?_⟩
      show (if r.sum then sndL (posP r r.body.length) else []).length ≤ _
      split
      · rw [sndL]; simpa using hp
      · simp
structure ChSt (rb n1 t5 t6 : Nat) (c5 c6 : List Value) (va vb : Value) (lb lw : List Int) (wy : World) : Prop where
  row : ∀ g, rowOf rb wy = some g → g < wy.heap.size
  b5 : Blk wy t5 c5 60
  n5 : rowOf rb wy ≠ some t5
  b6 : Blk wy t6 c6 60
  n6 : rowOf rb wy ≠ some t6
  qa : QRow n1 wy va lb
  na : ∀ i, va.ownBlock = some i → rowOf rb wy ≠ some i
  qb : QRow n1 wy vb lw
  nb : ∀ i, vb.ownBlock = some i → rowOf rb wy ≠ some i
  lo : rb < n1
  l5 : rb < t5
  l6 : rb < t6
  top : n1 ≤ wy.heap.size
theorem ChSt.ck {rb n1 t5 t6 : Nat} {c5 c6 : List Value} {va vb : Value} {lb lw : List Int} {wy wz : World} (h : ChSt rb n1 t5 t6 c5 c6 va vb lb lw wy) (k : CK rb wy wz) (hz : wy.heap.size ≤ wz.heap.size) : ChSt rb n1 t5 t6 c5 c6 va vb lb lw wz := by
  have h5 := h.l5
  have h6 := h.l6
  have ht := h.top
  have e5 := k.blk h.b5 (by omega) h.n5
  have e6 := k.blk h.b6 (by omega) h.n6
  have ea := k.row h.qa h.lo h.na
  have eb := k.row h.qb h.lo h.nb
  exact ⟨k.1 h.row, e5.1, e5.2, e6.1, e6.2, ea.1, ea.2, eb.1, eb.2, h.lo, h5, h6, by omega⟩
theorem ChSt.below {rb n1 t5 t6 : Nat} {c5 c6 : List Value} {va vb : Value} {lb lw : List Int} {wy wz : World} (h : ChSt rb n1 t5 t6 c5 c6 va vb lb lw wy) (k : Below wy.heap.size wy wz) : ChSt rb n1 t5 t6 c5 c6 va vb lb lw wz :=
  h.ck (CK.below k (by have := h.lo; have := h.top; omega)) k.size
theorem QRow.one {base g : Nat} {w : World} {a : Int} (h : Blk w g [.int .i64 a] 3) (hb : base ≤ g) (ha : InI a) : QRow base w (.slice (some ⟨g, 0, none⟩) 1 1) [a] := by
  refine ⟨fun i => ?_, .inr ⟨g, 0, 1, #[.int .i64 a], rfl, hb, h, by simp, by unfold maxLen; omega, by simp, fun i hi => ?_⟩⟩
  · cases i with
    | zero => exact ha
    | succ i => simp [ix]
  · obtain rfl : i = 0 := by simp at hi; omega
    rfl
def chΦ (base : Nat) (a : Int) (x : GR) : Nat → List Value → Value → Nat → Nat → World → Prop
  | 1, _, v, _, _, w => ∃ a1 c, v = .slice a1 1 c ∧ QRow base w v [a]
  | 4, _, v, _, _, w => ∃ a1 c, v = .slice a1 x.body.length c ∧ QRow base w v x.body
  | _, _, v, _, _, w => ∃ a1 c, v = .slice a1 x.w.length c ∧ QRow base w v x.w
theorem chΦ_later (base : Nat) (a : Int) (x : GR) : ∀ i args v lo hi w w', chΦ base a x i args v lo hi w → Below w.heap.size w w' → chΦ base a x i args v lo hi w' := by
  intro i args v lo hi w w' h hb
  unfold chΦ at *
  split at h
  · obtain ⟨a, c, e, h⟩ := h; exact ⟨a, c, e, h.below hb⟩
  · obtain ⟨a, c, e, h⟩ := h; exact ⟨a, c, e, h.below hb⟩
  · obtain ⟨a, c, e, h⟩ := h; exact ⟨a, c, e, h.below hb⟩
def ChSlots (p : GP) (m : List Int) (n0 rb k : Nat) (x : GR) (hd : List Int) (W0 : World) (J : List RQ → World → Prop) (S : World → Prop) (i : Value) (wy : World) : Prop :=
  ∃ (j : Nat) (pre : List RQ), j ≤ hd.length ∧ i = .int .i64 j ∧ rqs pre = redTo p m k ++ redCh m x hd j ∧ J pre wy ∧ Lim n0 [rb] W0 wy ∧ S wy
theorem ch_len {p : GP} {m : List Int} {k : Nat} {x : GR} (h : redB m (ixR p.rules k) = some x) (hc : (ixR p.rules k).choice = true) (hk : k < p.rules.length) {j : Nat} (hj : j < (ixR p.rules k).head.length) (hm : decide (ix (ixR p.rules k).head j ∈ m) = true) {pre : List RQ}
    (hp : rqs pre = redTo p m k ++ redCh m x (ixR p.rules k).head j) : pre.length < (redL p m).length := by
  have h1 := redTo_mono (p := p) (m := m) p.rules.length (k + 1) (by omega)
  have h2 := redCh_le m x (ixR p.rules k).head (j + 1)
  have h3 := congrArg List.length hp
  rw [redTo_choice h hc, List.length_append] at h1
  rw [redCh_in hj hm, List.length_append, List.length_singleton] at h2
  rw [rqs_len, List.length_append] at h3
  unfold redL
  omega
attribute [local go_sem] Oper.semAt_some memUpon
theorem yieldEndR {e : Ending} {A B : Prop} (h : (e = .returned (.bool true) ∧ A) ∨ (e = .returned (.bool false) ∧ B)) : ∃ b, e = .returned (.bool b) ∧ (b = true → A) ∧ (b = false → B) := by
  rcases h with ⟨rfl, h⟩ | ⟨rfl, h⟩
  · exact ⟨true, rfl, fun _ => h, fun e => (Bool.noConfusion e)⟩
  · exact ⟨false, rfl, (fun e => Bool.noConfusion e), fun _ => h⟩
def RdSlots (p : GP) (m : List Int) (n0 rb : Nat) (W0 : World) (J : List RQ → World → Prop) (i : Value) (wr : World) : Prop :=
  ∃ (k : Nat) (pre : List RQ), k ≤ p.rules.length ∧ i = .int .i64 k ∧ rqs pre = redTo p m k ∧ J pre wr ∧ Lim n0 [rb] W0 wr ∧ Hid (∀ g, rowOf rb wr = some g → g < wr.heap.size)
set_option maxHeartbeats 4000000 in
set_option maxRecDepth 100000 in
theorem reduced_stops (p : GP) (m : List Int) (wi w0 : World) (vn vs vr vm : Value) (hP : ProgIs wi (.agg #[.int .i64 p.n, vn, vs, vr, vm]) p) (rb pb fb mb : Nat)
    (hst : RedSt wi w0 m pb fb mb rb [.int .i64 p.n, vn, vs, vr, vm]) (hv : validE p = 0) (n : Nat) (hn : 1 ≤ n) :
    SeqStopsR Fence.wide n Tryz.prog 129 #[.pointer (some ⟨pb, 0, none⟩), .pointer (some ⟨fb, 0, none⟩)] redEnc (RKp w0.heap.size rb) (RedR w0.heap.size)
      (fun xs => rqs xs = redL p m) (fun _ => True) (redL p m).length w0 := by
  intro l J Jx W hW hJ hJx hY h0
  obtain ⟨vn', vs', vr', vm', e, hPS⟩ := hP
  simp only [Value.agg.injEq, Array.mk.injEq, List.cons.injEq, and_true] at e
  obtain ⟨-, rfl, rfl, rfl, rfl⟩ := e
  obtain ⟨a1, c1, rfl, -, hl1, -, hcell⟩ := hPS.rules.form
  have HST := Lib.hid hst
  have HY := Lib.hid hY
  have HJ := Lib.hid hJ
  have HJX := Lib.hid hJx
  have H0 := Lib.hid h0
  have HW := Lib.hid hW
  have HCELL := Lib.hid hcell
  have HPS := Lib.hid hPS
  have hpbl := hst.pb.lt
  have hfbl := hst.fb.lt
  have hrbl := hst.row.lt
  have hrlo := hst.rlo
  have hN := hst.below.size
  have hpne := hst.pb.ne_ty hst.row (by decide)
  have hfne := hst.fb.ne_ty hst.row (by decide)
  have hr0 : Hid (∀ g, rowOf rb W = some g → g < W.heap.size) := Lib.hid (fun g hg => by
    rw [rowOf_same (hW.block rb hrbl)] at hg
    unfold rowOf at hg
    rw [hst.row.cell 0] at hg
    cases hg)
  have kp := (hst.pb.below hW).cell
  have hzW := hW.size
  have HBW := Lib.hid (bodyW_valid hv)
  clear hst hY hJ hJx h0 hW hcell hPS
  refine callsIn_of_wp Tryz.func129 rfl trivial ?_ rfl
  simp only [Tryz.ntmps129, List.size_toArray, List.length_cons, List.length_nil, Nat.reduceAdd, Nat.reduceSub, Array.replicate_succ, Array.replicate_zero, List.push_toArray, List.append_toArray, List.nil_append, List.cons_append]
  gi_wp2
  clear kp
  gi_loopw [14] (fun i wr => RdSlots p m w0.heap.size rb W J i wr) (fun i _ => p.rules.length - (intOf i).toNat)
  case atStart => exact ⟨0, [], Nat.zero_le _, rfl, rfl, H0.out, Lim.refl _ _ _, hr0⟩
  case round =>
    obtain ⟨k, pre, hk, rfl, hpre, hj, hlim, HRW⟩ := hrel
    have HJR := Lib.hid hj
    have HPRE := Lib.hid hpre
    have HLIM := Lib.hid hlim
    have hlim0 : Lim w0.heap.size [rb] w0 wr := (Lim.of_below HW.out (Nat.le_refl _)).trans hlim
    have HBWI : Hid (Below wi.heap.size wi wr) := Lib.hid (HST.out.below.trans ((hlim0.mono hN (fun i hi _ => hi)).below (fun i hi => by simp only [List.mem_singleton] at hi; omega)))
    have HPB := Lib.hid (HST.out.pb.lim hlim0 hpbl hpne)
    have HFB := Lib.hid (HST.out.fb.lim hlim0 hfbl hfne)
    have HIN := Lib.hid (HST.out.inm.lim HST.out.row hlim0)
    have hzr := hlim0.size
    clear hj hpre hlim hlim0
    by_cases hlt : k < p.rules.length
    · obtain ⟨b, off, rfl, hbl, hc⟩ := HCELL.out (by omega)
      obtain ⟨vh, vb, vw, ⟨k0, k1, k2, k3, k4, k5⟩, hsl⟩ := hc k hlt
      have hbw := HBWI.out
      have hk0 := (bcell hbw _ _ hbl).trans k0
      have hk1 := (bcell hbw _ _ hbl).trans k1
      have hk2 := (bcell hbw _ _ hbl).trans k2
      have hk3 := (bcell hbw _ _ hbl).trans k3
      have hk4 := (bcell hbw _ _ hbl).trans k4
      have hk5 := (bcell hbw _ _ hbl).trans k5
      have HSL := Lib.hid hsl
      obtain ⟨ah, ch, rfl, -, hlh, -, -⟩ := hsl.head.form
      obtain ⟨ab, cb, rfl, -, hlb, -, -⟩ := hsl.body.form
      obtain ⟨aw, cw, rfl, -, hlw, -, -⟩ := hsl.wts.form
      clear hc k0 k1 k2 k3 k4 k5 hsl hbw
      have hal := bal (Below.refl wr.heap.size wr) (.cells #[.bool (ixR p.rules k).choice, .slice ah (ixR p.rules k).head.length ch, .bool (ixR p.rules k).sum, .int .i64 (ixR p.rules k).bound, .slice ab (ixR p.rules k).body.length cb, .slice aw (ixR p.rules k).w.length cw] 60)
      have HBR := Lib.hid (Blk.new wr [.bool (ixR p.rules k).choice, .slice ah (ixR p.rules k).head.length ch, .bool (ixR p.rules k).sum, .int .i64 (ixR p.rules k).bound, .slice ab (ixR p.rules k).body.length cb, .slice aw (ixR p.rules k).w.length cw] 60)
      have HRI : Hid (RuleIs (wr.alloc (.cells #[.bool (ixR p.rules k).choice, .slice ah (ixR p.rules k).head.length ch, .bool (ixR p.rules k).sum, .int .i64 (ixR p.rules k).bound, .slice ab (ixR p.rules k).body.length cb, .slice aw (ixR p.rules k).w.length cw] 60)) (.agg #[.bool (ixR p.rules k).choice, .slice ah (ixR p.rules k).head.length ch, .bool (ixR p.rules k).sum, .int .i64 (ixR p.rules k).bound, .slice ab (ixR p.rules k).body.length cb, .slice aw (ixR p.rules k).w.length cw]) (ixR p.rules k)) := Lib.hid ⟨_, _, _, rfl, HSL.out.below (bon HBWI.out hal)⟩
      have HAL := Lib.hid hal
      have HFB1 := HFB.out.below hal
      have kf1 := HFB1.cell 0
      have HIN1 := Lib.hid (HIN.out.below hal)
      clear hal HFB1
      have HRW1 : Hid (∀ w', Below wr.heap.size wr w' → rowOf rb w' = rowOf rb wr) := Lib.hid (fun w' hb => rowOf_same (hb.block rb (by omega)))
      cases hr : redB m (ixR p.rules k) with
      | none =>
        have HR := Lib.hid hr
        clear hr
        gi_wp2_with (refine ⟨trivial, ?_⟩; gi_at_call 130; refine (callsIn_wide.2 ((positive_any _ (ixR p.rules k) m mb p.n _ HRI.out HIN1.out (HBW.out k hlt)).mono fun _ _ hp => posOut_none HR.out hp)).mono ?_; rintro e w2 ⟨rfl, hb2⟩; have HB2 := Lib.hid (bon HAL.out hb2); clear hb2)
        have HB3 := Lib.hid (bal HB2.out (.cells #[.bool false, .slice none 0 0, .bool false, .int .i64 0, .slice none 0 0, .slice none 0 0] 60))
        first
          | (go_roundw
             case rel => (exact ⟨k + 1, pre, hlt, by go_num, by rw [HPRE.out, redTo_none HR.out], AbidesFrom.below HJ.out HJR.out HB3.out, HLIM.out.trans (.of_below HB3.out (by omega)), Lib.hid ((CK.below HB3.out (by omega)).1 HRW.out)⟩)
             case measure => (simp [intOf]; omega))
          | (refine ⟨?_, ?_⟩
             · (exact ⟨k + 1, pre, hlt, by go_num, by rw [HPRE.out, redTo_none HR.out], AbidesFrom.below HJ.out HJR.out HB3.out, HLIM.out.trans (.of_below HB3.out (by omega)), Lib.hid ((CK.below HB3.out (by omega)).1 HRW.out)⟩)
             · (simp [intOf]; omega))
      | some x =>
        have HR := Lib.hid hr
        have HRF := Lib.hid (red_form (HBW.out k hlt) hr)
        clear hr
        cases hch : (ixR p.rules k).choice with
        | false =>
          have HCH := Lib.hid hch
          have HLEN : Hid (pre.length < (redL p m).length) := Lib.hid (by
            have h1 := redTo_mono (p := p) (m := m) p.rules.length (k + 1) (by omega)
            rw [redTo_plain HR.out HCH.out, List.length_append, List.length_singleton, ← HPRE.out, rqs_len] at h1
            exact h1)
          rw [hch] at HRI HBR HAL HIN1 kf1 hk0
          clear hch
          gi_wp2_with (first
            | (refine ⟨trivial, ?_⟩; gi_at_call 130; refine (callsIn_wide.2 ((positive_any _ (ixR p.rules k) m mb p.n _ HRI.out HIN1.out (HBW.out k hlt)).mono fun _ _ hp => posOut_some HR.out hp)).mono ?_; rintro e w2 ⟨a2, n2, c2, a3, n3, c3, rfl, hqa, hqb, hb2⟩; have HB2 := Lib.hid (bon HAL.out hb2); have HQA := Lib.hid hqa; have HQB := Lib.hid hqb; have kb5 := (HBR.out.below hb2).cell; have z5 := Nat.lt_of_lt_of_le HBR.out.lt hb2.size; have HB5 := Lib.hid (HBR.out.below hb2); have ka5 := fun ob o => (bcell (bal (Below.refl _ w2) ob) wr.heap.size o z5).trans (kb5 o); clear hqa hqb hb2)
            | (refine ⟨trivial, ?_⟩; gi_at_call 51; refine (callsIn_wide.2 (cloneI_sl _ _ _ (HSL.out.head.below (bon HBWI.out (bal HB2.out _))))).mono ?_; rintro e w4 ⟨a4, c4, rfl, ho4, hb4⟩; have hblk := (Blk.new w2 [.bool false, .slice none 0 0, .bool x.sum, .int .i64 x.bound, .slice a2 n2 c2, .slice a3 n3 c3] 60).below hb4; have kb6 := hblk.cell; have fb6 := hblk.free; have hb24 := bon (bal (Below.refl w2.heap.size w2) (.cells #[.bool false, .slice none 0 0, .bool x.sum, .int .i64 x.bound, .slice a2 n2 c2, .slice a3 n3 c3] 60)) hb4; have hz2 := HB2.out.size; have HB7 : Hid (Below wr.heap.size wr (w4.setCell ⟨w2.heap.size, 1, none⟩ (.slice a4 (ixR p.rules k).head.length c4))) := Lib.hid ((bon HB2.out hb24).setCell (p := ⟨w2.heap.size, 1, none⟩) hz2 _); have HRR : Hid (RedR w0.heap.size (withHead x (ixR p.rules k).head, .slice a4 (ixR p.rules k).head.length c4, .slice a2 n2 c2, .slice a3 n3 c3) (w4.setCell ⟨w2.heap.size, 1, none⟩ (.slice a4 (ixR p.rules k).head.length c4))) := Lib.hid ⟨HRF.out.1, ((QRow.of_own ho4).setFar 1 _ (by simp)).mono (by simp; omega), (HQA.out.boxed hb24 1 _).mono (by simp; omega), (HQB.out.boxed hb24 1 _).mono (by simp; omega), HRF.out.2.2⟩; obtain ⟨fn, tmps, assign, body, hy, hR⟩ := HY.out pre _ _ (AbidesFrom.below HJ.out HJR.out HB7.out) HRR.out HLEN.out; simp only [redEnc, withHead] at hy; clear hb24 hz2 ho4 hb4 hblk)
            | (refine hR.mono ?_; rintro e W6 h6; obtain ⟨bb, rfl, hbt, hbf⟩ := yieldEndR h6; have HBT := Lib.hid hbt; have HBF := Lib.hid hbf; clear hbt hbf h6))
          · cases bb with
            | false =>
              (try gi_wp2)
              refine bodyPost_ret (results_none rfl _ _ _) rfl ?_
              exact ⟨⟨_, rfl⟩, .inr ⟨_, (by first | exact ⟨trivial, HBF.out rfl⟩ | exact HBF.out rfl | exact ⟨trivial, HBF.out trivial⟩ | exact HBF.out trivial)⟩⟩
            | true => exact Bool.noConfusion ‹(!true) = true›
          · cases bb with
            | false => exact Bool.noConfusion ‹(!false) = false›
            | true =>
              first
                | (go_roundw
                   case rel => (exact ⟨k + 1, pre ++ [_], hlt, by go_num, by rw [rqs_snoc, HPRE.out, redTo_plain HR.out HCH.out], (HBT.out (by first | exact rfl | exact trivial)).1, (HLIM.out.trans (.of_below HB7.out (by omega))).trans (HBT.out (by first | exact rfl | exact trivial)).2.1, Lib.hid ((HBT.out (by first | exact rfl | exact trivial)).2.2.1 ((CK.below HB7.out (by omega)).1 HRW.out))⟩)
                   case measure => (simp [intOf]; omega))
                | (refine ⟨?_, ?_⟩
                   · (exact ⟨k + 1, pre ++ [_], hlt, by go_num, by rw [rqs_snoc, HPRE.out, redTo_plain HR.out HCH.out], (HBT.out (by first | exact rfl | exact trivial)).1, (HLIM.out.trans (.of_below HB7.out (by omega))).trans (HBT.out (by first | exact rfl | exact trivial)).2.1, Lib.hid ((HBT.out (by first | exact rfl | exact trivial)).2.2.1 ((CK.below HB7.out (by omega)).1 HRW.out))⟩)
                   · (simp [intOf]; omega))
        | true =>
          have HCH := Lib.hid hch
          have HXL := Lib.hid (red_len HR.out)
          have hbl0 := (HBW.out k hlt).v.ok.len
          rw [hch] at HRI HBR HAL HIN1 kf1 hk0
          clear hch
          gi_wp2_with (refine ⟨trivial, ?_⟩; gi_at_call 130; refine (callsIn_wide.2 ((positive_any _ (ixR p.rules k) m mb p.n _ HRI.out HIN1.out (HBW.out k hlt)).mono fun _ _ hp => posOut_some HR.out hp)).mono ?_; rintro e w2 ⟨a2, n2, c2, a3, n3, c3, rfl, hqa, hqb, hb2⟩; have HB2 := Lib.hid (bon HAL.out hb2); have HQA := Lib.hid hqa; have HQB := Lib.hid hqb; have kb5 := (HBR.out.below hb2).cell; have z5 := Nat.lt_of_lt_of_le HBR.out.lt hb2.size; have HB5 := Lib.hid (HBR.out.below hb2); have ka5 := fun ob o => (bcell (bal (Below.refl _ w2) ob) wr.heap.size o z5).trans (kb5 o); clear hqa hqb hb2)
          have HB3 := Lib.hid (bal HB2.out (.cells #[.bool false, .slice none 0 0, .bool x.sum, .int .i64 x.bound, .slice a2 n2 c2, .slice a3 n3 c3] 60))
          have HN6 := Lib.hid (Blk.new w2 [.bool false, .slice none 0 0, .bool x.sum, .int .i64 x.bound, .slice a2 n2 c2, .slice a3 n3 c3] 60)
          have HR3 : Hid (rowOf rb (w2.alloc (.cells #[.bool false, .slice none 0 0, .bool x.sum, .int .i64 x.bound, .slice a2 n2 c2, .slice a3 n3 c3] 60)) = rowOf rb wr) := Lib.hid (rowOf_same (HB3.out.block rb (by omega)))
          clear kb5 ka5
          generalize wr = wq at *
          gi_loopw [27] (fun i wr => ChSlots p m w0.heap.size rb k x (ixR p.rules k).head W J (ChSt rb (wq.heap.size + 1) wq.heap.size w2.heap.size [.bool true, .slice ah (ixR p.rules k).head.length ch, .bool (ixR p.rules k).sum, .int .i64 (ixR p.rules k).bound, .slice ab (ixR p.rules k).body.length cb, .slice aw (ixR p.rules k).w.length cw] [.bool false, .slice none 0 0, .bool x.sum, .int .i64 x.bound, .slice a2 n2 c2, .slice a3 n3 c3] (.slice a2 n2 c2) (.slice a3 n3 c3) x.body x.w) i wr) (fun i _ => (ixR p.rules k).head.length - (intOf i).toNat)
          case atStart =>
            have hd2 := bal (Below.refl w2.heap.size w2) (.cells #[.bool false, .slice none 0 0, .bool x.sum, .int .i64 x.bound, .slice a2 n2 c2, .slice a3 n3 c3] 60)
            refine ⟨0, pre, Nat.zero_le _, rfl, by rw [HPRE.out]; simp [redCh], AbidesFrom.below HJ.out HJR.out HB3.out, HLIM.out.trans (.of_below HB3.out (by omega)), ?_⟩
            refine ⟨(CK.below HB3.out (by omega)).1 HRW.out, HB5.out.below hd2, ?_, HN6.out, ?_, (HQA.out.below hd2).mono (by simp), ?_, (HQB.out.below hd2).mono (by simp), ?_, by omega, by omega, by omega, by have := hd2.size; omega⟩
            · intro e; rw [HR3.out] at e; have := HRW.out _ e; omega
            · intro e; rw [HR3.out] at e; have := HRW.out _ e; omega
            · intro i hi e; rw [HR3.out] at e; have := HRW.out _ e; exact HQA.out.own_ne (.inl (by simp; omega)) hi
            · intro i hi e; rw [HR3.out] at e; have := HRW.out _ e; exact HQB.out.own_ne (.inl (by simp; omega)) hi
          case round =>
            obtain ⟨j, pre2, hj2, rfl, hpre2, hjy, hlimy, hsty⟩ := hrel
            have HPRE2 := Lib.hid hpre2
            have HJY := Lib.hid hjy
            have HLIMY := Lib.hid hlimy
            have HSTY := Lib.hid hsty
            have hlim1 : Lim w0.heap.size [rb] w0 wr := (Lim.of_below HW.out (Nat.le_refl _)).trans hlimy
            have HBWY : Hid (Below wi.heap.size wi wr) := Lib.hid (HST.out.below.trans ((hlim1.mono hN (fun i hi _ => hi)).below (fun i hi => by simp only [List.mem_singleton] at hi; omega)))
            have HFBY := HST.out.fb.lim hlim1 hfbl hfne
            have kfy := HFBY.cell 0
            have HINY := Lib.hid (HST.out.inm.lim HST.out.row hlim1)
            have hzy := hlim1.size
            have hty := hsty.top
            have k6 := hsty.b6.cell
            have hl6 := hsty.b6.lt
            clear hpre2 hjy hlimy hsty hlim1 HFBY
            by_cases hlt2 : j < (ixR p.rules k).head.length
            · obtain ⟨b2, o2, rfl, hbl2, hc2⟩ := HSL.out.head.at hlt2
              have hc2y := (bcell HBWY.out _ _ hbl2).trans hc2
              have HFA : Hid (InI (ix (ixR p.rules k).head j)) := Lib.hid (HSL.out.head.2 j)
              cases hmb : decide (ix (ixR p.rules k).head j ∈ m) with
              | false =>
                have HMB := Lib.hid hmb
                clear hmb
                gi_wp2_with (refine ⟨trivial, ?_⟩; gi_at_call 128; refine (callsIn_wide.2 (memb1_any _ m _ _ HINY.out)).mono ?_; rintro e w1 ⟨e1, rfl⟩; rw [HMB.out] at e1; subst e1)
                first
                  | (go_roundw
                     case rel => (exact ⟨j + 1, pre2, hlt2, by go_num, by rw [HPRE2.out, redCh_out hlt2 HMB.out], HJY.out, HLIMY.out, HSTY.out⟩)
                     case measure => (simp [intOf]; omega))
                  | (refine ⟨?_, ?_⟩
                     · (exact ⟨j + 1, pre2, hlt2, by go_num, by rw [HPRE2.out, redCh_out hlt2 HMB.out], HJY.out, HLIMY.out, HSTY.out⟩)
                     · (simp [intOf]; omega))
              | true =>
                have HMB := Lib.hid hmb
                clear hmb
                have HLEN : Hid (pre2.length < (redL p m).length) := Lib.hid (ch_len HR.out HCH.out hlt hlt2 HMB.out HPRE2.out)
                gi_upto_region 9 with (refine ⟨trivial, ?_⟩; gi_at_call 128; refine (callsIn_wide.2 (memb1_any _ m _ _ HINY.out)).mono ?_; rintro e w1 ⟨e1, rfl⟩; rw [HMB.out] at e1; subst e1)
                have hal := bal (Below.refl wr.heap.size wr) (.cells #[.bool false, .slice none 0 0, .bool x.sum, .int .i64 x.bound, .slice a2 n2 c2, .slice a3 n3 c3] 60)
                have HBX := Lib.hid hal
                have HB10 := Lib.hid (Blk.new wr [.bool false, .slice none 0 0, .bool x.sum, .int .i64 x.bound, .slice a2 n2 c2, .slice a3 n3 c3] 60)
                have HS1 := Lib.hid (HSTY.out.below hal)
                have kz : wr.heap.size < (wr.alloc (.cells #[.bool false, .slice none 0 0, .bool x.sum, .int .i64 x.bound, .slice a2 n2 c2, .slice a3 n3 c3] 60)).heap.size := HB10.out.lt
                clear hal hc2y kfy k6
                generalize wr.alloc (.cells #[.bool false, .slice none 0 0, .bool x.sum, .int .i64 x.bound, .slice a2 n2 c2, .slice a3 n3 c3] 60) = W1 at *
                have kr6 : ∀ e : Ext W1, ∀ o, e.world.cell? ⟨w2.heap.size, o, none⟩ = [Value.bool false, .slice none 0 0, .bool x.sum, .int .i64 x.bound, .slice a2 n2 c2, .slice a3 n3 c3][o]? := fun e o => (bcell e.below _ o HS1.out.b6.lt).trans (HS1.out.b6.cell o)
                refine wpIn_wide.2 ?_
                refine wp_region_tail' 9 (fun _ => True) (chΦ W1.heap.size (ix (ixR p.rules k).head j) x) (fun i => i == 1 || i == 4 || i == 7) (by kernel_rfl) (by kernel_rfl) (by kernel_rfl) (fun _ _ => trivial) (chΦ_later _ _ _) ?_
                simp only [List.take_succ_cons, List.take_zero, List.drop_succ_cons, List.drop_zero]
                iterate 1 (refine walkP_head (by kernel_rfl) rfl rfl rfl (fun K hK => ?_); go_big_quiet_op; refine hK _ ?_; clear hK K)
                refine walkP_mem rfl rfl (fun wa hba hFa => ?_) (fun v1 lo1 hi1 l1 g1 h1 => ?_)
                · go_simp
                  exact ⟨bal (Below.refl _ _) _, _, _, rfl, QRow.one (Blk.new wa [.int .i64 (ix (ixR p.rules k).head j)] _) hba.size HFA.out⟩
                obtain ⟨_, xa1, ca1, rfl, -⟩ := h1
                simp only [Act.put, List.setIfInBounds_toArray, List.set_cons_succ, List.set_cons_zero]
                iterate 2 (refine walkP_head (by kernel_rfl) rfl rfl rfl (fun K hK => ?_); go_big_quiet_op; refine hK _ ?_; clear hK K)
                refine walkP_mem rfl rfl (fun wa hba hFa => ?_) (fun v4 lo4 hi4 l4 g4 h4 => ?_)
                · go_simp
                  refine (cloneI_sl _ x.body _ ((HS1.out.qa.below hba).ints (by have := HXL.out.1; omega))).mono ?_
                  rintro e wz ⟨xz, yz, rfl, ho, hb⟩
                  exact ⟨_, rfl, hb, xz, yz, rfl, (QRow.of_own ho).mono hba.size⟩
                obtain ⟨_, xa4, ca4, rfl, -⟩ := h4
                simp only [Act.put, List.setIfInBounds_toArray, List.set_cons_succ, List.set_cons_zero]
                iterate 2 (refine walkP_head (by kernel_rfl) rfl rfl rfl (fun K hK => ?_); go_big_quiet_op; refine hK _ ?_; clear hK K)
                refine walkP_mem rfl rfl (fun wa hba hFa => ?_) (fun v7 lo7 hi7 l7 g7 h7 => ?_)
                · go_simp
                  refine (cloneI_sl _ x.w _ ((HS1.out.qb.below hba).ints (by have := HXL.out.2; omega))).mono ?_
                  rintro e wz ⟨xz, yz, rfl, ho, hb⟩
                  exact ⟨_, rfl, hb, xz, yz, rfl, (QRow.of_own ho).mono hba.size⟩
                obtain ⟨_, xa7, ca7, rfl, -⟩ := h7
                simp only [Act.put, List.setIfInBounds_toArray, List.set_cons_succ, List.set_cons_zero]
                iterate 1 (refine walkP_head (by kernel_rfl) rfl rfl rfl (fun K hK => ?_); go_big_quiet_op; refine hK _ ?_; clear hK K)
                intro wx hbx hF hI hP
                have f7 := hF _ (.head _)
                have f4 := hF _ (.tail _ (.head _))
                have f1 := hF _ (.tail _ (.tail _ (.head _)))
                obtain ⟨_, _, e7, F7⟩ := f7
                obtain ⟨_, _, e4, F4⟩ := f4
                obtain ⟨_, _, e1, F1⟩ := f1
                clear hF hI hP
                have kx := fun o => (bcell hbx _ o HB10.out.lt).trans (HB10.out.cell o)
                have kf := fun o => (bfrozen hbx _ o HB10.out.lt).trans (HB10.out.free o)
                have HF7 := Lib.hid F7
                have HF4 := Lib.hid F4
                have HF1 := Lib.hid F1
                have HBXX := Lib.hid hbx
                clear e7 e4 e1 F7 F4 F1
                iterate 5 (refine ⟨rfl, rfl, ?_⟩; go_simp)
                simp only [tailW]
                have hrc := HB10.out.below hbx
                have HRC : Hid (Blk (((wx.setCell ⟨wr.heap.size, 1, none⟩ (.slice xa1 1 ca1)).setCell ⟨wr.heap.size, 4, none⟩ (.slice xa4 x.body.length ca4)).setCell ⟨wr.heap.size, 5, none⟩ (.slice xa7 x.w.length ca7)) wr.heap.size [.bool false, .slice xa1 1 ca1, .bool x.sum, .int .i64 x.bound, .slice xa4 x.body.length ca4, .slice xa7 x.w.length ca7] 60) := Lib.hid (((hrc.set 1 _).set 4 _).set 5 _)
                have HBW5 : Hid (Below wr.heap.size wr (((wx.setCell ⟨wr.heap.size, 1, none⟩ (.slice xa1 1 ca1)).setCell ⟨wr.heap.size, 4, none⟩ (.slice xa4 x.body.length ca4)).setCell ⟨wr.heap.size, 5, none⟩ (.slice xa7 x.w.length ca7))) := Lib.hid ((((bon HBX.out hbx).setCell (Nat.le_refl _) _).setCell (Nat.le_refl _) _).setCell (Nat.le_refl _) _)
                have keep : ∀ (u : Value) (l : List Int), QRow W1.heap.size wx u l → QRow W1.heap.size (((wx.setCell ⟨wr.heap.size, 1, none⟩ (.slice xa1 1 ca1)).setCell ⟨wr.heap.size, 4, none⟩ (.slice xa4 x.body.length ca4)).setCell ⟨wr.heap.size, 5, none⟩ (.slice xa7 x.w.length ca7)) u l := fun u l h =>
                  h.kept fun i hi _ _ => (Below.heap_setCell _ _ _ _ (show i ≠ wr.heap.size by omega)).trans ((Below.heap_setCell _ _ _ _ (show i ≠ wr.heap.size by omega)).trans (Below.heap_setCell _ _ _ _ (show i ≠ wr.heap.size by omega)))
                have HRR : Hid (RedR w0.heap.size (withHead x [ix (ixR p.rules k).head j], .slice xa1 1 ca1, .slice xa4 x.body.length ca4, .slice xa7 x.w.length ca7) (((wx.setCell ⟨wr.heap.size, 1, none⟩ (.slice xa1 1 ca1)).setCell ⟨wr.heap.size, 4, none⟩ (.slice xa4 x.body.length ca4)).setCell ⟨wr.heap.size, 5, none⟩ (.slice xa7 x.w.length ca7))) :=
                  Lib.hid ⟨HRF.out.1, (keep _ _ HF1.out).mono (by omega), (keep _ _ HF4.out).mono (by omega), (keep _ _ HF7.out).mono (by omega), HRF.out.2.2⟩
                clear keep hrc kx kf HF1 HF4 HF7 kr6 hbx
                generalize ((wx.setCell ⟨wr.heap.size, 1, none⟩ (.slice xa1 1 ca1)).setCell ⟨wr.heap.size, 4, none⟩ (.slice xa4 x.body.length ca4)).setCell ⟨wr.heap.size, 5, none⟩ (.slice xa7 x.w.length ca7) = W5 at *
                have HJ5 := Lib.hid (AbidesFrom.below HJ.out HJY.out HBW5.out)
                have HS5 := Lib.hid (HSTY.out.below HBW5.out)
                have k10 := HRC.out.cell
                have hz5 := HBW5.out.size
                obtain ⟨fn, tmps, assign, body, hy, hR⟩ := HY.out pre2 _ _ HJ5.out HRR.out HLEN.out
                simp only [redEnc, withHead] at hy
                gi_wp2_with (refine hR.mono ?_; rintro e W6 h6; obtain ⟨bb, rfl, hbt, hbf⟩ := yieldEndR h6; have HBT := Lib.hid hbt; have HBF := Lib.hid hbf; clear hbt hbf h6)
                · cases bb with
                  | false =>
                    (try gi_wp2)
                    refine bodyPost_ret (results_none rfl _ _ _) rfl ?_
                    exact ⟨⟨_, rfl⟩, .inr ⟨_, (by first | exact ⟨trivial, HBF.out rfl⟩ | exact HBF.out rfl | exact ⟨trivial, HBF.out trivial⟩ | exact HBF.out trivial)⟩⟩
                  | true => exact Bool.noConfusion ‹(!true) = true›
                · cases bb with
                  | false => exact Bool.noConfusion ‹(!false) = false›
                  | true =>
                    have hbt := HBT.out (by first | exact rfl | exact trivial)
                    first
                      | (go_roundw
                         case rel => (exact ⟨j + 1, pre2 ++ [_], hlt2, by go_num, by rw [rqs_snoc, HPRE2.out, redCh_in hlt2 HMB.out, List.append_assoc], hbt.1, (HLIMY.out.trans (.of_below HBW5.out (by omega))).trans hbt.2.1, HS5.out.ck hbt.2.2 hbt.2.1.size⟩)
                         case measure => (simp [intOf]; omega))
                      | (refine ⟨?_, ?_⟩
                         · (exact ⟨j + 1, pre2 ++ [_], hlt2, by go_num, by rw [rqs_snoc, HPRE2.out, redCh_in hlt2 HMB.out, List.append_assoc], hbt.1, (HLIMY.out.trans (.of_below HBW5.out (by omega))).trans hbt.2.1, HS5.out.ck hbt.2.2 hbt.2.1.size⟩)
                         · (simp [intOf]; omega))
            · obtain rfl : j = (ixR p.rules k).head.length := by omega
              gi_wp2
              first
                | (go_roundw
                   case rel => (exact ⟨k + 1, pre2, hlt, by go_num, by rw [HPRE2.out, redTo_choice HR.out HCH.out], HJY.out, HLIMY.out, Lib.hid HSTY.out.row⟩)
                   case measure => (simp [intOf]; omega))
                | (refine ⟨?_, ?_⟩
                   · (exact ⟨k + 1, pre2, hlt, by go_num, by rw [HPRE2.out, redTo_choice HR.out HCH.out], HJY.out, HLIMY.out, Lib.hid HSTY.out.row⟩)
                   · (simp [intOf]; omega))
    · gi_wp2
      go_end0
      first
        | exact ⟨⟨_, rfl⟩, .inl ⟨pre, HPRE.out, HJR.out⟩⟩
        | (obtain rfl : k = p.rules.length := by omega
           exact ⟨⟨_, rfl⟩, .inl ⟨pre, HPRE.out, HJR.out⟩⟩)
end Go.Proofs.YtfajkmmmmmfhiaaGreatDoor
namespace Go.Proofs.YtfajkmmmmmfhiaaGreatDoor
open Go.RowKit
structure RowsK (B : Nat) (live : Nat → Option (List Int)) (vals : Nat → Value) (wx : World) : Prop where
  row : ∀ i l, live i = some l → QRow B wx (vals i) l
  far : ∀ i j l m, live i = some l → live j = some m → i ≠ j → ∀ g, (vals i).ownBlock = some g → (vals j).ownBlock ≠ some g
section
variable {B k x : Nat} {live live' : Nat → Option (List Int)} {vals : Nat → Value} {wx wy : World} {v : Value} {l lx : List Int}
theorem RowsK.start (B : Nat) (vals : Nat → Value) (wx : World) (h : ∀ i l, live i ≠ some l) : RowsK B live vals wx := ⟨fun i l e => absurd e (h i l), fun i _ l _ e => absurd e (h i l)⟩
theorem RowsK.on (h : RowsK B live vals wx) (hb : Below wx.heap.size wx wy) : RowsK B live vals wy := ⟨fun i l e => (h.row i l e).below hb, h.far⟩
theorem RowsK.new (h : RowsK B live vals wx) (hb : Below wx.heap.size wx wy) (hq : QRow wx.heap.size wy v l) (hB : B ≤ wx.heap.size) (hl : ∀ i m, live' i = some m → i = k ∧ m = l ∨ i ≠ k ∧ live i = some m) : RowsK B live' (updN vals k v) wy := by
  have e : ∀ i, i ≠ k → updN vals k v i = vals i := fun i hi => by simp only [updN]; rw [if_neg hi]
  have e0 : updN vals k v k = v := by simp [updN]
  have hlt : ∀ i m, live i = some m → ∀ g, (vals i).ownBlock = some g → g < wx.heap.size := fun i m hi g hg => ((h.row i m hi).base hg).2
  refine ⟨fun i m hi => ?_, fun i j m n hi hj hij g hg hg2 => ?_⟩
  · rcases hl i m hi with ⟨rfl, rfl⟩ | ⟨h1, h2⟩
    · rw [e0]; exact hq.mono hB
    · rw [e i h1]; exact (h.row i m h2).below hb
  · rcases hl i m hi with ⟨rfl, rfl⟩ | ⟨h1, h2⟩ <;> rcases hl j n hj with ⟨rfl, rfl⟩ | ⟨h3, h4⟩
    · exact hij rfl
    · rw [e0] at hg; rw [e j h3] at hg2
      have := (hq.base hg).1; have := hlt j n h4 g hg2; omega
    · rw [e0] at hg2; rw [e i h1] at hg
      have := (hq.base hg2).1; have := hlt i m h2 g hg; omega
    · rw [e i h1] at hg; rw [e j h3] at hg2
      exact h.far i j m n h2 h4 hij g hg hg2
theorem RowsK.app (h : RowsK B live vals wx) (hx : live x = some lx) (hq : QRow B wy v l) (hg : wx.grownBy wy (vals x).ownBlock) (ho : v.ownBlock = (vals x).ownBlock ∨ v.ownBlock = some wx.heap.size)
    (hl : ∀ i m, live' i = some m → i = k ∧ m = l ∨ i ≠ k ∧ i ≠ x ∧ live i = some m) : RowsK B live' (updN vals k v) wy := by
  have e : ∀ i, i ≠ k → updN vals k v i = vals i := fun i hi => by simp only [updN]; rw [if_neg hi]
  have e0 : updN vals k v k = v := by simp [updN]
  have hlt : ∀ i m, live i = some m → ∀ g, (vals i).ownBlock = some g → g < wx.heap.size := fun i m hi g hg => ((h.row i m hi).base hg).2
  have hnew : ∀ i m, live i = some m → i ≠ x → ∀ g, (vals i).ownBlock = some g → v.ownBlock ≠ some g := fun i m hi hix g e1 e2 => by
    rcases ho with ho | ho
    · rw [ho] at e2; exact h.far i x m lx hi hx hix g e1 e2
    · rw [ho] at e2; have := hlt i m hi g e1; have := Option.some.inj e2; omega
  refine ⟨fun i m hi => ?_, fun i j m n hi hj hij g hg1 hg2 => ?_⟩
  · rcases hl i m hi with ⟨rfl, rfl⟩ | ⟨h1, h1b, h2⟩
    · rw [e0]; exact hq
    · rw [e i h1]
      exact (h.row i m h2).kept fun b _ hb hv => hg.block b hb fun e3 => h.far i x m lx h2 hx h1b b hv e3.symm
  · rcases hl i m hi with ⟨rfl, rfl⟩ | ⟨h1, h1b, h2⟩ <;> rcases hl j n hj with ⟨rfl, rfl⟩ | ⟨h3, h3b, h4⟩
    · exact hij rfl
    · rw [e0] at hg1; rw [e j h3] at hg2; exact hnew j n h4 h3b g hg2 hg1
    · rw [e0] at hg2; rw [e i h1] at hg1; exact hnew i m h2 h1b g hg1 hg2
    · rw [e i h1] at hg1; rw [e j h3] at hg2
      exact h.far i j m n h2 h4 hij g hg1 hg2
theorem RowsK.below (h : RowsK B live vals wx) (hx : live x = some lx) {W : World} (hW : Below W.heap.size W wx) (hB : W.heap.size ≤ B) (hg : wx.grownBy wy (vals x).ownBlock) : Below W.heap.size W wy :=
  hW.trans (below_row hg hW.size fun _ e => Nat.le_trans hB ((h.row x lx hx).base e).1)
end
attribute [local go_sem] Oper.semAt_some memUpon
def MinR (R : List GR) (m : List Int) (rb : Nat) (c : Code) (pre : List (Nat × Value)) (W : World) : Prop :=
  ∃ (pre' : List (Nat × Value)) (k : Nat) (v : Value), c = .ret ∧ pre = pre' ++ [(k, v)] ∧ (∀ y ∈ pre', satR R (sbL m y.1) = false) ∧ satR R (sbL m k) = true ∧ Blk W rb [.bool (decide ((sbL m k).length = m.length))] 4
theorem MinR.own {R : List GR} {m : List Int} {rb B : Nat} (c : Code) : OwnFrom B (MinR R m rb c) := fun pre X Y row hs hg hr => by
  obtain ⟨pre', k, v, h1, h2, h3, h4, h5⟩ := hs
  exact ⟨pre', k, v, h1, h2, h3, h4, blk_own rb _ _ () X Y row h5 hg (fun r e => (hr r e).2)⟩
theorem MinR.is {R : List GR} {m : List Int} {rb : Nat} {c : Code} {pre : List (Nat × Value)} {W : World} (h : MinR R m rb c pre W) {k : Nat} (hk : k < 2 ^ m.length) (hp : pre.map (·.1) = List.range (k + 1)) :
    c = .ret ∧ ∃ b, Blk W rb [.bool b] 4 ∧ MinIs R m b := by
  obtain ⟨pre', q, v, h1, rfl, h3, h4, h5⟩ := h
  rw [List.map_append, List.range_succ] at hp
  obtain ⟨hp1, hp2⟩ := List.append_inj' hp rfl
  obtain rfl : q = k := by simpa using hp2
  refine ⟨h1, _, h5, .inl ⟨q, hk, fun j hj => ?_, h4, rfl⟩⟩
  have : j ∈ pre'.map (·.1) := by rw [hp1]; exact List.mem_range.2 hj
  obtain ⟨y, hy, e⟩ := List.mem_map.1 this
  rw [← e]
  exact h3 y hy
end Go.Proofs.YtfajkmmmmmfhiaaGreatDoor
namespace Go.Proofs.YtfajkmmmmmfhiaaGreatDoor
open Go.RowKit
set_option maxHeartbeats 1000000 in
theorem reduced_any (n : Int) (vn vs vm : Value) (r4 : Option Addr) (n3 c3 : Nat) (mb : Nat) (w : World) :
    Calls Tryz.prog 81 #[.agg #[.int .i64 n, vn, vs, (.slice r4 n3 c3), vm], .func (.func 128) #[] #[.pointer (some ⟨mb, 0, none⟩)]] w fun e w' => e = .returned (.func (.func 129) #[] #[.pointer (some ⟨w.heap.size, 0, none⟩), .pointer (some ⟨w.heap.size + 1, 0, none⟩)]) ∧
      Below w.heap.size w w' ∧ Blk w' w.heap.size [.int .i64 n, vn, vs, (.slice r4 n3 c3), vm] 27 ∧ Blk w' (w.heap.size + 1) [.func (.func 128) #[] #[.pointer (some ⟨mb, 0, none⟩)]] 92 := by
  have h1 := Blk.new w [.int .i64 n, vn, vs, (.slice r4 n3 c3), vm] 27
  have hb : Below w.heap.size w ((w.alloc (.cells #[.int .i64 n, vn, vs, (.slice r4 n3 c3), vm] 27)).alloc (.cells #[.func (.func 128) #[] #[.pointer (some ⟨mb, 0, none⟩)]] 92)) := bal (bal (Below.refl _ _) _) _
  have h2 : Blk ((w.alloc (.cells #[.int .i64 n, vn, vs, (.slice r4 n3 c3), vm] 27)).alloc (.cells #[.func (.func 128) #[] #[.pointer (some ⟨mb, 0, none⟩)]] 92)) w.heap.size [.int .i64 n, vn, vs, (.slice r4 n3 c3), vm] 27 := h1.alloc _
  have h3 := Blk.new2 w (.cells #[.int .i64 n, vn, vs, (.slice r4 n3 c3), vm] 27) [.func (.func 128) #[] #[.pointer (some ⟨mb, 0, none⟩)]] 92
  clear h1
  have H2 := Lib.hid h2
  have H3 := Lib.hid h3
  have HB := Lib.hid hb
  clear h2 h3 hb
  go_enter Tryz.func81, Tryz.ntmps81
  go_wp2
  go_ret
  exact ⟨rfl, HB.out, H2.out, H3.out⟩
section
variable {B : Nat} {w w' : World}
theorem QRow.ownT {v : Value} {l : List Int} {row : Option Nat} (h : QRow B w v l) (hg : w.grownBy w' row) (hr : ∀ r, row = some r → ∃ o : Obj, w.heap[r]? = some o ∧ o.isCells = false) : QRow B w' v l := by
  rcases h.2 with ⟨rfl, rfl⟩ | ⟨g, off, cap, cur, rfl, hb, hc, r⟩
  · exact QRow.nil _ _
  · refine h.kept fun i _ hi e => hg.block i hi (fun e2 => ?_)
    simp only [Value.ownBlock, Option.some.injEq] at e
    subst e
    obtain ⟨o, ho, hf⟩ := hr g e2.symm
    rw [hc] at ho
    cases ho
    cases hf
theorem Blk.ownT {b : Nat} {c : List Value} {t : TypeId} {row : Option Nat} (h : Blk w b c t) (hg : w.grownBy w' row) (hr : ∀ r, row = some r → ∃ o : Obj, w.heap[r]? = some o ∧ o.isCells = false) : Blk w' b c t :=
  h.same (hg.block b h.lt (fun e2 => by
    obtain ⟨o, ho, hf⟩ := hr b e2.symm
    rw [show w.heap[b]? = _ from h] at ho
    cases ho
    cases hf))
theorem Mine.ownT {v : Value} {L : List RQ} {row : Option Nat} (h : Mine B v L w) (hg : w.grownBy w' row) (hr : ∀ r, row = some r → ∃ o : Obj, w.heap[r]? = some o ∧ o.isCells = false) : Mine B v L w' := by
  refine ⟨h.row.kept hg ?_, fun q hq => let ⟨h1, h2, h3, h4⟩ := h.each q hq; ⟨h1.ownT hg hr, h2.ownT hg hr, h3.ownT hg hr, h4⟩⟩
  rcases h.row.2 with ⟨e, _⟩ | ⟨g, cap, cur, e, _, hgg, _⟩
  · exact .inl (by rw [e]; rfl)
  · refine .inr (fun e2 => ?_)
    rw [e] at e2
    simp only [Value.ownBlock] at e2
    obtain ⟨o, ho, hf⟩ := hr g e2.symm
    rw [hgg] at ho
    cases ho
    cases hf
theorem RedR.ownT {q : RQ} {row : Option Nat} (h : RedR B q w) (hg : w.grownBy w' row) (hr : ∀ r, row = some r → ∃ o : Obj, w.heap[r]? = some o ∧ o.isCells = false) : RedR B q w' :=
  ⟨h.1, h.2.1.ownT hg hr, h.2.2.1.ownT hg hr, h.2.2.2.1.ownT hg hr, h.2.2.2.2⟩
theorem RedR.below {q : RQ} (h : RedR B q w) (hb : Below w.heap.size w w') : RedR B q w' :=
  ⟨h.1, h.2.1.below hb, h.2.2.1.below hb, h.2.2.2.1.below hb, h.2.2.2.2⟩
end
def RdI (rb B N : Nat) (w : World) (pre : List RQ) (W : World) : Prop :=
  ∃ a n c, Blk W rb [.slice a n c] 24 ∧ Mine B (.slice a n c) pre W ∧ Below N w W ∧ B ≤ W.heap.size
theorem RdI.own {rb B N Z : Nat} {w : World} (hN : N ≤ w.heap.size) (hZ : N ≤ Z) : OwnFrom Z (RdI rb B N w) := fun pre X Y row h hg hr => by
  obtain ⟨a, n, c, h1, h2, h3, h4⟩ := h
  have hr' := fun r e => (hr r e).2
  exact ⟨a, n, c, h1.ownT hg hr', h2.ownT hg hr', (ownFrom_below (β := Unit) hN hZ) () X Y row h3 hg hr, Nat.le_trans h4 hg.size⟩
theorem red_push {rb B N Z : Nat} {w W w1 : World} {a : Option Addr} {n c : Nat} {pre : List RQ} {q : RQ} {tmp : Obj} {v' : Value} (hrb : rb < B) (hB : B ≤ W.heap.size) (hN : N ≤ rb) (_hW : N ≤ w.heap.size)
    (hb : Blk W rb [.slice a n c] 24) (hm : Mine B (.slice a n c) pre W) (hw : Below N w W) (hq : RedR B q W)
    (hown : w1.ownsRow B 60 6 v' (pre.length + 1) (pre.flatMap cells6 ++ cells6 q)) (hg : (W.alloc tmp).grownBy w1 (Value.slice a n c).ownBlock)
    (hat : v'.ownBlock = (Value.slice a n c).ownBlock ∨ v'.ownBlock = some (W.alloc tmp).heap.size) :
    Blk w1 rb [.slice a n c] 24 ∧ (KeepsFrom Z W (w1.setCell ⟨rb, 0, none⟩ v') ∧ RKp B rb W (w1.setCell ⟨rb, 0, none⟩ v') ∧ RdI rb B N w (pre ++ [q]) (w1.setCell ⟨rb, 0, none⟩ v')) := by
  have hz : W.heap.size ≤ w1.heap.size := by have := hg.size; simp at this; omega
  have hrow : ∀ g, (Value.slice a n c).ownBlock = some g → B ≤ g ∧ ∃ o : Obj, W.heap[g]? = some o ∧ o.isCells = true := fun g e => by
    rcases hm.row.2 with ⟨e1, _⟩ | ⟨g', cap, cur, e1, hb', hgg, _⟩
    · rw [e1] at e; cases e
    · rw [e1] at e
      simp only [Value.ownBlock, Option.some.injEq] at e
      subst e
      exact ⟨hb', _, hgg, rfl⟩
  have hkeep : ∀ i, i < W.heap.size → (Value.slice a n c).ownBlock ≠ some i → w1.heap[i]? = W.heap[i]? := fun i hi hne =>
    (hg.block i (by simp; omega) (fun e => hne e.symm)).trans (Below.heap_alloc _ _ _ hi)
  have hb1 : Blk w1 rb [.slice a n c] 24 := hb.same (hkeep rb hb.lt (fun e => by have := (hrow _ e).1; omega))
  obtain ⟨g, cap, rfl⟩ := ownsRow_succ hown
  have hglt : g < w1.heap.size ∧ B ≤ g := by
    rcases hown.2 with ⟨e, _⟩ | ⟨g', cap', cur, e, hb', hgg, _⟩
    · cases e
    · simp only [Value.slice.injEq, Option.some.injEq, Addr.mk.injEq, and_true] at e
      obtain ⟨rfl, -⟩ := e
      exact ⟨(Array.getElem?_eq_some_iff.1 hgg).1, hb'⟩
  have hmp := (hm.below (bal (Below.refl W.heap.size W) tmp)).push (q := q) (w' := w1) (g := g) (cap := cap) ⟨hq.2.1.below (bal (Below.refl _ _) _), hq.2.2.1.below (bal (Below.refl _ _) _), hq.2.2.2.1.below (bal (Below.refl _ _) _), hq.2.2.2.2⟩ hown hg
  have hset : ∀ i, i ≠ rb → (w1.setCell ⟨rb, 0, none⟩ (.slice (some ⟨g, 0, none⟩) (pre.length + 1) cap)).heap[i]? = w1.heap[i]? := fun i hi => Below.heap_setCell _ _ _ _ hi
  have hsz : (w1.setCell ⟨rb, 0, none⟩ (.slice (some ⟨g, 0, none⟩) (pre.length + 1) cap)).heap.size = w1.heap.size := by simp [World.setCell]
  have hb3 : Blk (w1.setCell ⟨rb, 0, none⟩ (.slice (some ⟨g, 0, none⟩) (pre.length + 1) cap)) rb [.slice (some ⟨g, 0, none⟩) (pre.length + 1) cap] 24 := hb1.set 0 _
  have hlim : Lim B [rb] W (w1.setCell ⟨rb, 0, none⟩ (.slice (some ⟨g, 0, none⟩) (pre.length + 1) cap)) :=
    ⟨hg.os, hg.tape, hg.output, by rw [hsz]; exact hz, fun i hi hs => (hset i (by simpa using hs)).trans (hkeep i (by omega) (fun e => by have := (hrow _ e).1; omega))⟩
  refine ⟨hb1, (((KeepsOthers.alloc W tmp).trans (KeepsOthers.of_grownBy hg fun j o ej hj => ?_)).trans (KeepsOthers.setCell _ _ _)).from _, ⟨hlim, ?_, ?_⟩, _, _, _, hb3, hmp.setCell 0 _ hrb, ?_, by rw [hsz]; omega⟩
  · obtain ⟨_, o2, ho2, hc2⟩ := hrow j ej
    rw [Below.heap_alloc _ _ _ (Array.getElem?_eq_some_iff.1 ho2).1, ho2] at hj
    cases hj; exact hc2
  · intro _ g2 hg2
    unfold rowOf at hg2
    rw [hb3.cell 0] at hg2
    simp only [List.getElem?_cons_zero, Option.bind_some, Value.ownBlock, Option.some.injEq] at hg2
    subst hg2
    rw [hsz]; exact hglt.1
  · intro i o hi ho hne hrw
    have hilt := (Array.getElem?_eq_some_iff.1 hi).1
    have hrw' : (Value.slice a n c).ownBlock ≠ some i := by
      unfold rowOf at hrw
      rw [hb.cell 0] at hrw
      simpa using hrw
    refine ⟨(hset i hne).trans ((hkeep i hilt hrw').trans hi), fun e => ?_⟩
    unfold rowOf at e
    rw [hb3.cell 0] at e
    simp only [List.getElem?_cons_zero, Option.bind_some] at e
    rcases hat with h | h
    · exact hrw' (h.symm.trans e)
    · rw [e] at h
      simp only [World.size_alloc, Option.some.injEq] at h
      omega
  · exact hw.trans ⟨hg.os, hg.tape, hg.output, by rw [hsz]; exact hz, fun i hi => (hset i (by omega)).trans (hkeep i (by have := hw.size; omega) (fun e => by have := (hrow _ e).1; omega))⟩
theorem redL_mem {p : GP} {m : List Int} : ∀ k, k ≤ p.rules.length → ∀ x ∈ redTo p m k, ∃ i y, i < p.rules.length ∧ redB m (ixR p.rules i) = some y ∧ x.body = y.body ∧ x.w = y.w ∧ (x.head = (ixR p.rules i).head ∨ x.head.length = 1)
  | 0, _, x, hx => by simp [redTo] at hx
  | k + 1, hk, x, hx => by
    cases hr : redB m (ixR p.rules k) with
    | none => rw [redTo_none hr] at hx; exact redL_mem k (by omega) x hx
    | some y =>
      cases hc : (ixR p.rules k).choice with
      | false =>
        rw [redTo_plain hr hc] at hx
        rcases List.mem_append.1 hx with hx | hx
        · exact redL_mem k (by omega) x hx
        · obtain rfl := List.mem_singleton.1 hx
          exact ⟨k, y, by omega, hr, rfl, rfl, .inl rfl⟩
      | true =>
        rw [redTo_choice hr hc] at hx
        rcases List.mem_append.1 hx with hx | hx
        · exact redL_mem k (by omega) x hx
        · unfold redCh at hx
          obtain ⟨a, -, rfl⟩ := List.mem_map.1 hx
          exact ⟨k, y, by omega, hr, rfl, rfl, .inr rfl⟩
end Go.Proofs.YtfajkmmmmmfhiaaGreatDoor
