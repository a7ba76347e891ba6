/- My texts Rdc7, Stb2, IsD, Sd41, FrameE, merged. -/
import Derived.Test.YtfajkmmmmmfhiaaGreatDoorM26
import Derived.Test.YtfajkmmmmmfhiaaGreatDoorM25
import Derived.Test.YtfajkmmmmmfhiaaGreatDoorM07
import Derived.Test.YtfajkmmmmmfhiaaGreatDoorM24
import Derived.Test.YtfajkmmmmmfhiaaGreatDoorM06
import Derived.Test.YtfajkmmmmmfhiaaGreatDoorM05
import Derived.Test.YtfajkmmmmmfhiaaGreatDoorM04
import Derived.Test.YtfajkmmmmmfhiaaGreatDoorM22
import Derived.Test.YtfajkmmmmmfhiaaGreatDoorM03
import Derived.Test.YtfajkmmmmmfhiaaGreatDoorM00
import Derived.Test.YtfajkmmmmmfhiaaGreatDoorProg
import Derived.WalkKit
import Derived.Lib.Hide
import Derived.Deep.QuietTactic
import Derived.BigQuiet
import Derived.WalkSpells
import Derived.Lib.SliceRun
import Derived.MapKept
import Derived.Maps.OwnSet
import Derived.Maps.OwnOps
import Derived.Test.YtfajkmmmmmfhiaaGreatDoorM02
import Derived.Test.YtfajkmmmmmfhiaaGreatDoorM20
import Derived.Test.YtfajkmmmmmfhiaaGreatDoorM01
import Derived.Deep.AppendLies
import Derived.Lib.Bytealg
import Derived.Deep.DeepCutAuto
import Derived.Laws.EntriesVeiled
import Derived.Deep.RegionWith
import Derived.Deep.OwnRows
import Derived.RangeFuncNested
import Derived.RangeFuncBound
import Derived.RangeFuncCalls
import Derived.RangeFuncLeaves
import Derived.OwnWalkIn
import Derived.TacticsInMore
import Derived.LoopNIn
import Derived.LoopIn
import Derived.Stop.RegionWithIn
import Derived.Shelf.Abstract
import Derived.Test.YtfajkmmmmmfhiaaGreatDoorM23
import Derived.Deep.LoopGhost
import Derived.Deep.DrawnRows
import Derived.Deep.RegionHeld3
import Derived.Laws.ResultCell
import Derived.Laws.Rows
import Derived.Deep.RegionLaw
import Derived.Test.YtfajkmmmmmfhiaaGreatDoorM09
import Derived.Deep.AppendSrc
import Derived.Sort.CutIn
import Derived.Maps.OwnIn
import Derived.Test.YtfajkmmmmmfhiaaGreatDoorM12
import Derived.Test.YtfajkmmmmmfhiaaGreatDoorM15
import Derived.Test.YtfajkmmmmmfhiaaGreatDoorM14
import Derived.Sort.QuietThIn
import Derived.Maps.RangeWalk
import Derived.Lib.SlicesCompact
import Derived.Shelf.Sort.Plain
import Derived.Shelf.Slices.CompactI
import Derived.Shelf.Slices.In.SortNone
import Derived.Shelf.Strconv.Itoa3
import Derived.Shelf.Strings.BuilderK
import Derived.Shelf.Slices.SearchI
import Derived.Shelf.Slices.Empties
import Derived.Sort.OwnSortedInts
import Derived.RangeFuncBox
import Derived.Lib.RowBridge
import Derived.Test.YtfajkmmmmmfhiaaGreatDoorM11
import Derived.Deep.DeepMust
import Derived.Test.YtfajkmmmmmfhiaaGreatDoorM13
import Derived.Test.YtfajkmmmmmfhiaaGreatDoorM17
import Derived.ProofKit
import Derived.OpenShut
import Derived.ChangeArms
import Derived.SizedLaws
import Derived.Test.YtfajkmmmmmfhiaaGreatDoorM16
import Derived.Test.YtfajkmmmmmfhiaaGreatDoorM08
import Derived.Test.YtfajkmmmmmfhiaaGreatDoorM10
import Derived.Lib.ItoaNum
import Derived.Test.YtfajkmmmmmfhiaaGreatDoorM18

namespace Go.Proofs.YtfajkmmmmmfhiaaGreatDoor
open Go.RowKit
attribute [local go_sem] Oper.semAt_some memUpon
def rdΦ (m : List Int) (vp : List Value) : Nat → List Value → Value → Nat → Nat → World → Prop
  | 2, _, v, _, _, w => ∃ mb, v = .func (.func 128) #[] #[.pointer (some ⟨mb, 0, none⟩)] ∧ InM w mb m
  | _, args, v, _, _, w => ∃ pb fb mb, v = .func (.func 129) #[] #[.pointer (some ⟨pb, 0, none⟩), .pointer (some ⟨fb, 0, none⟩)] ∧ Blk w pb vp 27 ∧
      Blk w fb [.func (.func 128) #[] #[.pointer (some ⟨mb, 0, none⟩)]] 92 ∧ args[2]? = some (.func (.func 128) #[] #[.pointer (some ⟨mb, 0, none⟩)])
theorem rdΦ_later (m : List Int) (vp : List Value) : ∀ i args v lo hi w w', rdΦ m vp i args v lo hi w → Below w.heap.size w w' → rdΦ m vp i args v lo hi w' := by
  intro i args v lo hi w w' h hb
  unfold rdΦ at *
  split at h
  · obtain ⟨mb, e, h⟩ := h; exact ⟨mb, e, h.below hb⟩
  · obtain ⟨pb, fb, mb, e, h1, h2, h3⟩ := h; exact ⟨pb, fb, mb, e, h1.below hb, h2.below hb, h3⟩
theorem red_small {w : World} {v : Value} {p : GP} {m : List Int} (_hP : ProgIs w v p) (hv : validE p = 0) : (redL p m).length * 96 + 96 ≤ 140737488351232 ∧ ∀ x ∈ redL p m, x.head.length * 8 ≤ 140737488351232 ∧ x.body.length * 8 ≤ 140737488351232 ∧ x.w.length * 8 ≤ 140737488351232 := by
  have hV := validP hv
  have hn := hV.n
  have hr := hV.rules
  have hh : ∀ i, i < p.rules.length → (ixR p.rules i).head.length ≤ 8002 := fun i hi => by
    have := lits_le (increasing_ordered (hV.head i hi)) hn.1
    omega
  have hb : ∀ i, i < p.rules.length → (ixR p.rules i).body.length ≤ 8002 := fun i hi => by
    have := lits_le (hV.body i hi) hn.1
    omega
  refine ⟨?_, fun x hx => ?_⟩
  · have h1 := redTo_len (m := m) hh p.rules.length (Nat.le_refl _)
    have h2 : p.rules.length * (8002 + 1) ≤ 40000 * 8003 := Nat.mul_le_mul_right _ hr
    unfold redL
    omega
  · obtain ⟨i, y, hi, hy, e1, e2, e3⟩ := redL_mem _ (Nat.le_refl _) x hx
    have h1 := red_len hy
    have h2 := hb i hi
    have h3 := hh i hi
    rw [e1, e2]
    rcases e3 with e3 | e3
    · rw [e3]; omega
    · omega
set_option maxHeartbeats 4000000 in
set_option maxRecDepth 100000 in
theorem reduct_any (v vmm : Value) (p : GP) (m : List Int) (w : World) (h : ProgIs w v p) (hm : Ints w vmm m) (hv : validE p = 0) (hs : setQ p.n m = true) (hml : m.length ≤ 1000000000) :
    Calls Tryz.prog 33 #[v, vmm] w fun e w' => ∃ vr, e = .returned (.tuple #[vr, .int .i64 0]) ∧ RulesIs w' vr (redL p m) ∧ Below w.heap.size w w' := by
  have h0 := h
  have HSM := Lib.hid (red_small (m := m) h hv)
  obtain ⟨vn, vs, vr, vm, rfl, hps⟩ := h
  obtain ⟨a1, c1, rfl, -, hl1, -, -⟩ := hps.rules.form
  obtain ⟨a4, c4, rfl, -, hl4, -, -⟩ := hm.form
  have HC : Hid (checkE p m = 0) := Lib.hid (by unfold checkE; rw [if_neg (by simp [hv]), hs]; rfl)
  have HV := Lib.hid hv
  have hal := bal (Below.refl w.heap.size w) (.cells #[.int .i64 p.n, vn, vs, .slice a1 p.rules.length c1, vm] 27)
  have HP := Lib.hid (h0.below hal)
  have HP0 := Lib.hid h0
  have HM0 := Lib.hid hm
  have HM := Lib.hid (hm.below hal)
  have HAL := Lib.hid hal
  have HBX := Lib.hid (Blk.new w [.int .i64 p.n, vn, vs, .slice a1 p.rules.length c1, vm] 27)
  clear hps h0 hal hm hv hs
  refine (callsIn_wide (n := 6)).1 ?_
  refine callsIn_of_wp_marks Tryz.func33 rfl trivial ?_ rfl
  simp only [Tryz.ntmps33, List.size_toArray, List.length_cons, List.length_nil, Nat.reduceAdd, Nat.reduceSub, Array.replicate_succ, Array.replicate_zero, List.push_toArray, List.append_toArray, List.nil_append, List.cons_append]
  gi_upto_region 5 with (refine ⟨trivial, ?_⟩; gi_at_call 80; refine (callsIn_wide.2 (rcheck_any _ _ p m _ HP.out HM.out)).mono ?_; rintro e w1 ⟨e1, hb1⟩; rw [HC.out] at e1; subst e1)
  have HB1 := Lib.hid (bon HAL.out hb1)
  have HB0 := Lib.hid (bal HB1.out (.cells #[.slice none 0 0] 24))
  have BR := Lib.hid (Blk.new w1 [.slice none 0 0] 24)
  have bI := (HBX.out.below hb1).below (bal (Below.refl w1.heap.size w1) (.cells #[.slice none 0 0] 24))
  have hz1 := HB1.out.size
  have hzz : w1.heap.size < (w1.alloc (.cells #[.slice none 0 0] 24)).heap.size := by simp
  clear hb1
  generalize w1.alloc (.cells #[.slice none 0 0] 24) = W1 at *
  have hdr : Below W1.heap.size W1 W1.drew := (Below.refl _ _).drew
  have HDR := Lib.hid hdr
  have HM1 := Lib.hid (HM0.out.below (bon HB0.out hdr))
  have kI := bI.cell
  have BI := Lib.hid bI
  clear bI hdr
  gi_cut [18] from 15 (fun s18 wx => ∃ pb fb mb, s18 = .func (.func 129) #[] #[.pointer (some ⟨pb, 0, none⟩), .pointer (some ⟨fb, 0, none⟩)] ∧ RedSt w wx m pb fb mb w1.heap.size [.int .i64 p.n, vn, vs, .slice a1 p.rules.length c1, vm] ∧ Below W1.heap.size W1 wx)
  case first =>
    have kc : ∀ e : Ext W1, ∀ o, e.world.cell? ⟨w.heap.size, o, none⟩ = [Value.int .i64 p.n, vn, vs, .slice a1 p.rules.length c1, vm][o]? := fun e o => (bcell e.below _ o BI.out.lt).trans (BI.out.cell o)
    refine wpIn_wide.2 ?_
    refine wp_region_perm' (rdΦ m [.int .i64 p.n, vn, vs, .slice a1 p.rules.length c1, vm]) (fun i => i == 2 || i == 3) (by kernel_rfl) (by kernel_rfl) (by kernel_rfl) (rdΦ_later _ _) ?_
    iterate 2 (refine walkP_calm rfl rfl rfl (fun K hK => ?_); go_big_quiet_op; refine hK _ ?_; clear hK K)
    refine walkP_mem rfl rfl (fun wa hba hFa => ?_) (fun v2 lo2 hi2 l2 g2 h2 => ?_)
    · go_simp
      refine (member_any _ m _ (HM0.out.below (bon HB0.out hba)) hml).mono ?_
      rintro e w2 ⟨mb, rfl, hin, hb⟩
      exact ⟨_, rfl, hb, mb, rfl, hin⟩
    obtain ⟨_, mb, rfl, -⟩ := h2
    simp only [Act.put, List.setIfInBounds_toArray, List.set_cons_succ, List.set_cons_zero]
    refine walkP_mem rfl rfl (fun wa hba hFa => ?_) (fun v3 lo3 hi3 l3 g3 h3 => ?_)
    · go_simp
      refine (reduced_any _ _ _ _ _ _ _ mb _).mono ?_
      rintro e w3 ⟨rfl, hb3, hp3, hf3⟩
      exact ⟨_, rfl, hb3, _, _, mb, rfl, hp3, hf3, rfl⟩
    obtain ⟨_, pb, fb, mb', rfl, -, -, hmb⟩ := h3
    obtain rfl : mb = mb' := by have h9 : some (Value.func (.func 128) #[] #[.pointer (some ⟨mb, 0, none⟩)]) = some (Value.func (.func 128) #[] #[.pointer (some ⟨mb', 0, none⟩)]) := hmb; simpa using h9
    simp only [Act.put, List.setIfInBounds_toArray, List.set_cons_succ, List.set_cons_zero]
    intro wx hbx hF hI hP
    have f3 := hF _ (.head _)
    have f2 := hF _ (.tail _ (.head _))
    obtain ⟨pb3, fb3, mb3, e3, hp3, hf3, e3'⟩ := f3
    obtain rfl : mb = mb3 := by have h9 : some (Value.func (.func 128) #[] #[.pointer (some ⟨mb, 0, none⟩)]) = some (Value.func (.func 128) #[] #[.pointer (some ⟨mb3, 0, none⟩)]) := e3'; simpa using h9
    obtain ⟨_, e2, hin⟩ := f2
    have HST : Hid (RedSt w wx m pb fb mb w1.heap.size [.int .i64 p.n, vn, vs, .slice a1 p.rules.length c1, vm]) := Lib.hid (by
      simp only [Value.func.injEq, true_and, Array.mk.injEq, List.cons.injEq, Value.pointer.injEq, Option.some.injEq, Addr.mk.injEq, and_true] at e3 e2
      obtain ⟨rfl, rfl⟩ := e3
      subst e2
      exact ⟨bon HB0.out hbx, hp3, hf3, hin, BR.out.below hbx, by omega⟩)
    have HBX2 := Lib.hid hbx
    clear hF hI hP hin hp3 hf3 e3 e2 e3' hbx kc kI
    gi_wp2_with fail
    gi_meet
    case rel => exact ⟨_, _, _, rfl, HST.out, HBX2.out⟩
  case rest =>
    obtain ⟨pb, fb, mb, rfl, hst, hbc⟩ := hcut
    have HST := Lib.hid hst
    have hzc := hbc.size
    have hBw : Below w.heap.size w wc := bon HB0.out hbc
    clear kI hst hbc HDR HM1 BI
    have hstop := reduced_stops p m w wc vn vs (.slice a1 p.rules.length c1) vm HP0.out w1.heap.size pb fb mb HST.out HV.out 5 (by omega)
    gi_wp2_with fail
    refine wpIn_rangeFunc_ownR rfl (by omega) (gf := 129) (lb := #[.pointer (some ⟨pb, 0, none⟩), .pointer (some ⟨fb, 0, none⟩)]) rfl trivial (enters_of Tryz.func129 (by kernel_rfl) rfl)
      hstop (fun h k => h.trans k) (fun W l o o' hl h hc hw => ⟨.of_below (belowK_b (w := wc) (Nat.le_refl _) W l o o' hl h hc hw) (Nat.le_refl _), CK.put h hc (by omega)⟩) (Below.refl _ _) (fun _ => rfl)
      (RdI w1.heap.size wc.heap.size w.heap.size w)
      (fun _ _ _ => False)
      (RdI.own (Nat.le_refl _) (by omega))
      (fun _ _ _ _ _ hs _ _ => hs)
      ⟨none, 0, 0, HST.out.row, Mine.nil _ _, hBw, Nat.le_refl _⟩
      (fun x a' W => ∃ Bx x1 x2 x3 y1 y2 y3 z1 z2 z3, x.2 = (.slice x1 x2 x3, .slice y1 y2 y3, .slice z1 z2 z3) ∧ Blk W Bx [.bool false, .slice x1 x2 x3, .bool x.1.sum, .int .i64 x.1.bound, .slice y1 y2 y3, .slice z1 z2 z3] 60 ∧ RedR wc.heap.size x W ∧
        a' = { tmps := #[.agg #[.int .i64 p.n, vn, vs, .slice a1 p.rules.length c1, vm], .slice a4 m.length c4, .pointer (some ⟨w.heap.size, 0, none⟩), undef, .slice none 0 0, .int .i64 0, .int .i64 0, .pointer (some ⟨w1.heap.size, 0, none⟩), .pointer (some ⟨Bx, 0, none⟩), .agg #[.int .i64 p.n, vn, vs, .slice a1 p.rules.length c1, vm], .slice a4 m.length c4, .int .i64 0, .int .i64 0, .bool false, undef, u15, u16, u17, .func (.func 129) #[] #[.pointer (some ⟨pb, 0, none⟩), .pointer (some ⟨fb, 0, none⟩)], .agg #[.bool false, .slice x1 x2 x3, .bool x.1.sum, .int .i64 x.1.bound, .slice y1 y2 y3, .slice z1 z2 z3], u20, u21, u22, u23, u24], defers := [] })
      (fun x a' _ X Y row hs hg hr => by obtain ⟨Bx, x1, x2, x3, y1, y2, y3, z1, z2, z3, h1, h2, h3, h4⟩ := hs; exact ⟨Bx, x1, x2, x3, y1, y2, y3, z1, z2, z3, h1, h2.ownT hg (fun r e => (hr r e).2), h3.ownT hg (fun r e => (hr r e).2), h4⟩)
      ?assign ?body ?done ?stop
    case assign =>
      rintro l pre ⟨x, xv1, xv2, xv3⟩ W K hI hR hK
      obtain ⟨x1, x2, x3, rfl⟩ := hR.2.1.form
      obtain ⟨y1, y2, y3, rfl⟩ := hR.2.2.1.form
      obtain ⟨z1, z2, z3, rfl⟩ := hR.2.2.2.1.form
      have hbn := Blk.new W [.bool false, .slice x1 x2 x3, .bool x.sum, .int .i64 x.bound, .slice y1 y2 y3, .slice z1 z2 z3] 60
      have HBN := Lib.hid hbn
      have HI := Lib.hid hI
      have HR := Lib.hid hR
      have hzW : wc.heap.size ≤ W.heap.size := by obtain ⟨_, _, _, _, _, _, h⟩ := hI; exact h
      clear hbn hI hR
      simp only [redEnc]
      gi_wp2
      have hbl := bal (Below.refl W.heap.size W) (.cells #[.bool false, .slice x1 x2 x3, .bool x.sum, .int .i64 x.bound, .slice y1 y2 y3, .slice z1 z2 z3] 60)
      exact hK _ _ ((KeepsOthers.alloc _ _).from _) ⟨.of_below hbl hzW, CK.below hbl (by omega)⟩ ((RdI.own (Z := w.heap.size) (Nat.le_refl _) (Nat.le_refl _)).alloc _ HI.out) ⟨W.heap.size, _, _, _, _, _, _, _, _, _, rfl, HBN.out, HR.out.below hbl, rfl⟩
    case body =>
      rintro l pre ⟨x, xv1, xv2, xv3⟩ a' W hl hloop hI ⟨Bx, x1, x2, x3, y1, y2, y3, z1, z2, z3, h1, hbx, hR, rfl⟩ hlt
      simp only [Prod.mk.injEq] at h1
      obtain ⟨rfl, rfl, rfl⟩ := h1
      obtain ⟨a, nn, c, hbv, hmine, hbw, hsz⟩ := hI
      have hlen := HSM.out.1
      have kv := hbv.cell 0
      have kx := hbx.cell
      have hrow := (hmine.below (bal (Below.refl W.heap.size W) (.cells #[.bool false, .slice x1 x2 x3, .bool x.sum, .int .i64 x.bound, .slice y1 y2 y3, .slice z1 z2 z3] 60))).row
      have hcl : cells6 (x, .slice x1 x2 x3, .slice y1 y2 y3, .slice z1 z2 z3) = [.bool false, .slice x1 x2 x3, .bool x.sum, .int .i64 x.bound, .slice y1 y2 y3, .slice z1 z2 z3] := by rw [cells6, hR.1]
      have hone : ∀ u ∈ [Value.bool false, .slice x1 x2 x3, .bool x.sum, .int .i64 x.bound, .slice y1 y2 y3, .slice z1 z2 z3], u.oneCell' = true := by
        intro u hu
        simp only [List.mem_cons, List.not_mem_nil, or_false] at hu
        rcases hu with rfl | rfl | rfl | rfl | rfl | rfl <;> rfl
      have HNB := Lib.hid (newsOf (Blk.new W [.bool false, .slice x1 x2 x3, .bool x.sum, .int .i64 x.bound, .slice y1 y2 y3, .slice z1 z2 z3] 60))
      have HBV := Lib.hid hbv
      have HMN := Lib.hid hmine
      have HBW := Lib.hid hbw
      have HR := Lib.hid hR
      have HROW := Lib.hid hrow
      have HCL := Lib.hid hcl
      have HONE := Lib.hid hone
      clear hbv hmine hbw hR hrow hcl hone hbx
      obtain ⟨i0, hi, hz0, hz1, hz2⟩ := info_parts infoR
      gi_wp2_with (gi_at_builtin; refine wpListIn_append_own_at _ rfl _ _ 24 rfl wc.heap.size 60 i0 _ 6 96 Tryz.underlying24 hi hz0 hz1 hz2 rfl (by decide) (.slice a nn c) pre.length (pre.flatMap cells6) rfl HROW.out ⟨W.heap.size, 0, none⟩ 1 1 [.bool false, .slice x1 x2 x3, .bool x.sum, .int .i64 x.bound, .slice y1 y2 y3, .slice z1 z2 z3] rfl rfl HNB.out HONE.out (by unfold maxLen; omega) (by omega) (by simp; omega) ?_; intro v' w3 hown' hgrow _ hat; rw [← HCL.out] at hown'; have hp := red_push (Z := wc.heap.size) (by omega) hsz (by omega) (Nat.le_refl _) HBV.out HMN.out HBW.out HR.out hown' hgrow hat; obtain ⟨g', cap', rfl⟩ := ownsRow_succ hown'; have hc1 := hp.1.cell 0; have hf1 := hp.1.free 0; have HPP := Lib.hid hp.2; clear hp hown' hgrow hat)
      exact HPP.out
    case done =>
      rintro D xs W hD hS ⟨a, nn, c, hbv, hmine, hbw, hsz⟩ hK
      have kv := hbv.cell 0
      have hlen := HSM.out.1
      have hxl : xs.length = (redL p m).length := by rw [← hS, rqs_len]
      have HRU : Hid (RulesIs (W.putObj D (.deferred none)) (.slice a nn c) (redL p m)) := Lib.hid (by
        have hmd := hmine.ownT (grownBy_putObj' W D (.deferred none)) (fun r e => by cases e; exact ⟨_, hK, rfl⟩)
        exact ⟨_, _, _, hmd.rules (redL p m) hS (by omega) (fun q hq => HSM.out.2 q.1 (by rw [← hS]; exact List.mem_map_of_mem hq))⟩)
      have HBW := Lib.hid hbw
      clear hbv hmine hbw
      gi_wp2
      refine ⟨by simp, .inl ⟨_, _, rfl, run_takeDeferred hK, ?_⟩⟩
      refine ⟨_, ?_, _, rfl, HRU.out, HBW.out.trans (belowK_b (w := w) (Nat.le_refl _) W D _ _ (by omega) hK rfl rfl)⟩
      simp [results, Tryz.f33, go_sem]
    case stop =>
      rintro D c pre W _ _ h _
      exact h.elim
end Go.Proofs.YtfajkmmmmmfhiaaGreatDoor
namespace Go.Proofs.YtfajkmmmmmfhiaaGreatDoor
open Go.RowKit
theorem least_intQ (v : Value) (R : List GR) (n : Int) (w : World) (h : RulesIs w v R) (hB : definiteB n R = true) : Calls Tryz.prog 34 #[.int .i64 n, v] w (LeastPost R n.toNat w) := by
  have hr := (definiteB_spec hB).rng
  obtain ⟨k, rfl⟩ : ∃ k : Nat, n = k := ⟨n.toNat, by omega⟩
  rw [Int.toNat_natCast]
  exact least_any v R k w h hB
theorem redL_few {p : GP} {m : List Int} (hr : p.rules.length ≤ 40) (hh : ∀ i, i < p.rules.length → (ixR p.rules i).head.length ≤ 40) : (redL p m).length ≤ 40000 := by
  have := redTo_len (m := m) hh p.rules.length (Nat.le_refl _)
  have h2 : p.rules.length * (40 + 1) ≤ 40 * 41 := Nat.mul_le_mul_right _ hr
  unfold redL; omega
structure ES41 (w : World) (p : GP) (vn vs vr vm xw xr : Value) (W : World) : Prop where
  st : E41 w p vn vs vr vm W
  bx : Blk W (w.heap.size + 1) [xw, xr] 30
theorem ES41.on {w W W' : World} {p : GP} {vn vs vr vm xw xr : Value} (h : ES41 w p vn vs vr vm xw xr W) (hb : Below W.heap.size W W') : ES41 w p vn vs vr vm xw xr W' := ⟨h.st.on hb, h.bx.below hb⟩
theorem ES41.start {w : World} {p : GP} {vn vs vr vm xw xr : Value} (h : ProgIs w (.agg #[.int .i64 p.n, vn, vs, vr, vm]) p) : ES41 w p vn vs vr vm xw xr ((w.alloc (.cells #[.int .i64 p.n, vn, vs, vr, vm] 27)).alloc (.cells #[xw, xr] 30)) :=
  ⟨(E41.start h).on (bal (Below.refl _ _) _), Blk.new2 w (.cells #[.int .i64 p.n, vn, vs, vr, vm] 27) [xw, xr] 30⟩
end Go.Proofs.YtfajkmmmmmfhiaaGreatDoor
namespace Go.Proofs.YtfajkmmmmmfhiaaGreatDoor
open Go.RowKit Go.WideShapes
theorem cellsWhy : Tryz.prog.cellsOf 49 = 3 := by kernel_rfl
theorem cellsExpl : Tryz.prog.cellsOf 30 = 2 := by kernel_rfl
theorem cellsYs : Tryz.prog.cellsOf 28 = 1 := by kernel_rfl
theorem twoC {cs : List Value} (h : cs.length = 2) : ∃ a b, cs = [a, b] := by
  match cs, h with
  | [a, b], _ => exact ⟨a, b, rfl⟩
section
variable {H : Type} {enc : TypeId × Value → H} {w : World} {r : Reach} {b0 : Nat} {v : Value} {d : DataW H} {q : List MemPlace}
theorem open_Why {cs : List Value} (h : Reads enc Tryz.prog w 49 cs) : ∃ y : WY, cs = cellsY y ∧ YI y := by
  have hl := open_len Tryz.underlying49 h
  have f0 := open_at Tryz.underlying49 h 0 3 0 1 rfl cellsI
  have f1 := open_at Tryz.underlying49 h 1 3 1 1 rfl cellsI
  have f2 := open_at Tryz.underlying49 h 2 3 2 1 rfl cellsI
  rw [cellsWhy] at hl
  obtain ⟨c0, c1, c2, rfl⟩ := three hl
  simp only [List.drop_succ_cons, List.drop_zero, List.take_succ_cons, List.take_zero] at f0 f1 f2
  obtain ⟨n0, h0, g0⟩ := open_int1 Tryz.underlying3 f0
  obtain ⟨n1, h1, g1⟩ := open_int1 Tryz.underlying3 f1
  obtain ⟨n2, h2, g2⟩ := open_int1 Tryz.underlying3 f2
  simp only [List.cons.injEq, and_true] at h0 h1 h2
  subst h0 h1 h2
  exact ⟨⟨n0, n1, n2⟩, rfl, wf_i64 g0, wf_i64 g1, wf_i64 g2⟩
theorem open_Whys {cs : List Value} (h : Reads enc Tryz.prog w 28 cs) : ∃ v l, cs = [v] ∧ WhysIs w v l := by
  obtain ⟨a, n, cap, rfl, h1, h2, h3, h4⟩ := open_slc (sz := 3) (byt := 24) Tryz.underlying28 cellsWhy (by omega) (by kernel_rfl) h
  by_cases hp : 0 < n
  · obtain ⟨b, off, rfl, hb, hel⟩ := h4 hp
    obtain ⟨l, hl, hq⟩ := list_of (default : WY) (Q := fun i (y : WY) => (∀ j, j < 3 → w.cell? ⟨b, off + i * 3 + j, none⟩ = some (whyCell y j)) ∧ YI y) n (fun i hi => by
      obtain ⟨cs', h5, h6, h7⟩ := hel i hi
      obtain ⟨y, rfl, hy⟩ := open_Why h7
      refine ⟨y, fun j hj => ?_, hy⟩
      rw [h6 j hj]
      rcases (show j = 0 ∨ j = 1 ∨ j = 2 by omega) with rfl | rfl | rfl <;> rfl)
    refine ⟨_, l, rfl, ⟨_, cap, by rw [hl], by omega, h2, by rw [hl]; omega, fun _ => ⟨b, off, rfl, hb, fun i hi j hj => ?_⟩⟩, fun y hy => ?_⟩
    · exact (hq i (by omega)).1 j hj
    · obtain ⟨i, hi, rfl⟩ := List.getElem_of_mem hy
      have := (hq i (by omega)).2
      rwa [show l.getD i default = l[i] by simp [List.getD_eq_getElem?_getD, List.getElem?_eq_getElem hi]] at this
  · obtain rfl : n = 0 := by omega
    exact ⟨_, [], rfl, ⟨a, cap, rfl, h1, h2, by simp, fun h => absurd h (by simp)⟩, fun y hy => absurd hy List.not_mem_nil⟩
set_option maxRecDepth 100000 in
theorem arg_Expl (hv : Value.okWide Tryz.prog w r b0 30 v) (h : DataW.Trod enc Tryz.prog w 0 (fun _ => true) true 30 v d q) (hw : ∀ m ∈ d.weights Tryz.prog 30, m ≤ reachBytes) : ∃ x, ExplIs w v x := by
  obtain ⟨cs, rfl, -⟩ := okWide_struct Tryz.underlying30 hv
  have hr := arg_reads h hw
  have hl := open_len Tryz.underlying30 hr
  have f0 := open_at Tryz.underlying30 hr 0 28 0 1 rfl cellsYs
  have f1 := open_at Tryz.underlying30 hr 1 23 1 1 rfl cellsIs
  rw [cellsExpl] at hl
  obtain ⟨c0, c1, hc⟩ := twoC hl
  rw [hc] at f0 f1
  simp only [List.drop_succ_cons, List.drop_zero, List.take_succ_cons, List.take_zero] at f0 f1
  obtain ⟨v0, l0, h0, g0⟩ := open_Whys f0
  obtain ⟨v1, l1, h1, g1⟩ := open_Ints f1
  simp only [List.cons.injEq, and_true] at h0 h1
  subst h0 h1
  refine ⟨⟨l0, l1⟩, c0, c1, ?_, g0, g1⟩
  have : cs.toList = [c0, c1] := by simpa [Value.cells] using hc
  congr 1
  exact Array.toList_inj.1 this
end
end Go.Proofs.YtfajkmmmmmfhiaaGreatDoor
