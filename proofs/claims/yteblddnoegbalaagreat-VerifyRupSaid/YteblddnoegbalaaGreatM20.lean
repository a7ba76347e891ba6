/- My texts Neg, Mine, RowR, RowP, Vf3, Vf4, merged. -/
import Derived.Test.YteblddnoegbalaaGreatM07
import Derived.Test.YteblddnoegbalaaGreatM06
import Derived.Test.YteblddnoegbalaaGreatM05
import Derived.Test.YteblddnoegbalaaGreatM04
import Derived.Test.YteblddnoegbalaaGreatM03
import Derived.Test.YteblddnoegbalaaGreatM00
import Derived.Test.YteblddnoegbalaaGreatProg
import Derived.WalkKit
import Derived.Lib.Hide
import Derived.Deep.QuietTactic
import Derived.BigQuiet
import Derived.WalkSpells
import Derived.Lib.SliceRun
import Derived.MapKept
import Derived.Maps.OwnSet
import Derived.Maps.OwnOps
import Derived.Test.YteblddnoegbalaaGreatM02
import Derived.Test.YteblddnoegbalaaGreatM01
import Derived.Deep.AppendLies
import Derived.Lib.Bytealg
import Derived.Deep.DeepCutAuto
import Derived.RangeFuncNested
import Derived.RangeFuncBound
import Derived.RangeFuncCalls
import Derived.RangeFuncLeaves
import Derived.OwnWalkIn
import Derived.TacticsInMore
import Derived.LoopNIn
import Derived.LoopIn
import Derived.Stop.RegionWithIn
import Derived.Shelf.Abstract
import Derived.Sort.QuietThIn
import Derived.RangeFuncBox
import Derived.Maps.OwnIn
import Derived.Lib.SlicesCompact
import Derived.Shelf.Sort.Plain
import Derived.Shelf.Slices.CompactI
import Derived.Shelf.Slices.In.SortNone
import Derived.Shelf.Strconv.Itoa3
import Derived.Shelf.Strings.BuilderK
import Derived.Shelf.Slices.SearchI
import Derived.Shelf.Slices.Empties
import Derived.Sort.OwnSortedInts
import Derived.Lib.RowBridge
import Derived.Test.YteblddnoegbalaaGreatM10
import Derived.Test.YteblddnoegbalaaGreatM09
import Derived.Test.YteblddnoegbalaaGreatM08
import Derived.Maps.RangeWalk
import Derived.Test.YteblddnoegbalaaGreatM13
import Derived.Test.YteblddnoegbalaaGreatM12
import Derived.Test.YteblddnoegbalaaGreatM11
import Derived.Laws.EntriesVeiled
import Derived.Deep.OwnRows
import Derived.Deep.AppendSrc
import Derived.Test.YteblddnoegbalaaGreatM16
import Derived.Deep.DeepMust
import Derived.Test.YteblddnoegbalaaGreatM19
import Derived.Test.YteblddnoegbalaaGreatM14
import Derived.Deep.RegionWith
import Derived.Test.YteblddnoegbalaaGreatM15
import Derived.Deep.LoopGhost
import Derived.Deep.DrawnRows
import Derived.Test.YteblddnoegbalaaGreatM18
import Derived.Test.YteblddnoegbalaaGreatM17
import Derived.ProofKit
import Derived.OpenShut
import Derived.ChangeArms
import Derived.SizedLaws
import Derived.Laws.Cover1

namespace Go.Proofs.YteblddnoegbalaaGreat
open Go.RowKit
attribute [local go_sem] Oper.semAt_some
def ngL {c : PBC} (pre : List (PV c)) : List Int := (pvs pre).map fun x => -x.1
theorem ngL_snoc {c : PBC} (pre : List (PV c)) (x : PV c) : ngL (pre ++ [x]) = ngL pre ++ [-x.1.1] := by simp [ngL, pvs]
theorem ngL_len {c : PBC} (pre : List (PV c)) : (ngL pre).length = pre.length := by simp [ngL, pvs]
theorem ngL_all {c : PBC} {pre : List (PV c)} (hl : c.lits.length = c.coefs.length) (h : pvs pre = c.lits.zip c.coefs) : ngL pre = negL c.lits := by
  unfold ngL negL
  rw [h, show (fun x : Int × Int => -x.1) = (fun x => -x) ∘ Prod.fst from rfl, ← List.map_map, List.map_fst_zip (by omega)]
theorem sumP_bound {c : PBC} (h : pbV c = true) {pre : List (PV c)} (hl : pre.length ≤ c.lits.length) : 0 ≤ sumP (pvs pre) ∧ sumP (pvs pre) ≤ 1099511627776 := by
  have e : sumP (pvs pre) = sumW (fun _ => true) (pvs pre) := by
    have : ∀ l : List (Int × Int), sumP l = sumW (fun _ => true) l := fun l => by
      induction l with
      | nil => rfl
      | cons x l ih => simp only [sumP, sumW, ih]; rfl
    exact this _
  rw [e]
  exact pv_bound h hl
structure NgSt (c : PBC) (H sb ob n1 : Nat) (vl vk : Value) (pre : List (PV c)) (W : World) : Prop where
  box : Blk W H [vl, vk, .int .i64 c.bound] 25
  rbox : Blk W (H + 1) [.slice none 0 0, .slice none 0 0, .int .i64 0] 25
  sum : Blk W sb [.int .i64 (sumP (pvs pre))] 3
  out : ∃ v, Boxed W ob 23 v ∧ W.ownsRow n1 3 1 v (ngL pre).length ((ngL pre).map (Value.int .i64)) ∧ True
theorem NgSt.own {c : PBC} {H sb ob n1 B : Nat} {vl vk : Value} : OwnFrom B (fun pre W => NgSt c H sb ob n1 vl vk pre W) := fun pre X Y row hs hg hrow => by
  have hr : ∀ r, row = some r → ∃ o : Obj, X.heap[r]? = some o ∧ o.isCells = false := fun r e => (hrow r e).2
  exact ⟨blk_ownP _ _ _ () X Y row hs.box hg hr, blk_ownP _ _ _ () X Y row hs.rbox hg hr, blk_ownP _ _ _ () X Y row hs.sum hg hr,
    holdsRow_own n1 ob 23 3 1 (fun pre : List (PV c) => (ngL pre).length) (fun pre => (ngL pre).map (Value.int .i64)) (fun _ _ => True) pre X Y row hs.out hg hr⟩
set_option maxHeartbeats 4000000 in
set_option maxRecDepth 100000 in
theorem negate_any (v : Value) (c : PBC) (w : World) (h : PBIs w v c) :
    Calls Tryz.prog 31 #[v] w fun e w' => ∃ vp, e = .returned (.tuple #[vp, .int .i64 (negP c).2]) ∧ PBQ w.heap.size w' vp (negP c).1 ∧ Below w.heap.size w w' := by
  obtain ⟨i0, hi, hz0, hz1, hz2⟩ := info_parts infoI
  obtain ⟨vl, vk, rfl, hL, hK, hbd⟩ := h
  obtain ⟨a1, c1, rfl, -, hl1, -, -⟩ := hL.form
  obtain ⟨a2, c2, rfl, -, hl2, -, -⟩ := hK.form
  have hal : Below w.heap.size w ((w.alloc (.cells #[.slice a1 c.lits.length c1, .slice a2 c.coefs.length c2, .int .i64 c.bound] 25)).alloc (.cells #[.slice none 0 0, .slice none 0 0, .int .i64 0] 25)) := bal (bal (Below.refl _ _) _) _
  have HAL := Lib.hid hal
  have HC0 : Hid (PBIs ((w.alloc (.cells #[.slice a1 c.lits.length c1, .slice a2 c.coefs.length c2, .int .i64 c.bound] 25)).alloc (.cells #[.slice none 0 0, .slice none 0 0, .int .i64 0] 25)) (.agg #[.slice a1 c.lits.length c1, .slice a2 c.coefs.length c2, .int .i64 c.bound]) c) := Lib.hid ⟨_, _, rfl, hL.below hal, hK.below hal, hbd⟩
  have B0 : Hid (Blk ((w.alloc (.cells #[.slice a1 c.lits.length c1, .slice a2 c.coefs.length c2, .int .i64 c.bound] 25)).alloc (.cells #[.slice none 0 0, .slice none 0 0, .int .i64 0] 25)) w.heap.size [.slice a1 c.lits.length c1, .slice a2 c.coefs.length c2, .int .i64 c.bound] 25) := Lib.hid (by repeat first | (refine Blk.newAt _ _ _ ?_; first | rfl | (simp only [World.size_alloc]; done) | (simp only [World.size_alloc]; omega)) | refine Blk.alloc ?_ _)
  have B1 : Hid (Blk ((w.alloc (.cells #[.slice a1 c.lits.length c1, .slice a2 c.coefs.length c2, .int .i64 c.bound] 25)).alloc (.cells #[.slice none 0 0, .slice none 0 0, .int .i64 0] 25)) (w.heap.size + 1) [.slice none 0 0, .slice none 0 0, .int .i64 0] 25) := Lib.hid (by repeat first | (refine Blk.newAt _ _ _ ?_; first | rfl | (simp only [World.size_alloc]; done) | (simp only [World.size_alloc]; omega)) | refine Blk.alloc ?_ _)
  have HL := Lib.hid hL
  have HK := Lib.hid hK
  unfold InI at hbd
  clear hL hK hal
  refine (callsIn_wide (n := 6)).1 ?_
  refine callsIn_of_wp_marks Tryz.func31 rfl trivial ?_ rfl
  simp only [Tryz.ntmps31, List.size_toArray, List.length_cons, List.length_nil, Nat.reduceAdd, Nat.reduceSub, Array.replicate_succ, Array.replicate_zero, List.push_toArray, List.append_toArray, List.nil_append, List.cons_append]
  cases hv : pbV c with
  | false =>
    have HF : Hid (negP c = (⟨[], [], 0⟩, 2)) := Lib.hid (by unfold negP; rw [hv]; rfl)
    have HV := Lib.hid hv
    clear hv
    gi_wp2_with (refine ⟨trivial, ?_⟩; gi_at_call 30; refine (callsIn_wide.2 (pbValid_any _ c _ HC0.out)).mono ?_; rintro e w5 ⟨ev, hb5⟩; rw [HV.out] at ev; subst ev; have C0 := Lib.hid (B0.out.below hb5); have C1 := Lib.hid (B1.out.below hb5); have kv0 := C0.out.cell; have kv1 := C1.out.cell; have kf1 := C1.out.free; have HB5 := Lib.hid (bon HAL.out hb5); have hz6 : w.heap.size < w5.heap.size := C0.out.lt; have hz7 : w.heap.size + 1 < w5.heap.size := C1.out.lt; clear hb5)
    refine ⟨.tuple #[.agg #[.slice none 0 0, .slice none 0 0, .int .i64 0], .int .i64 2], by simp [results, Tryz.f31, go_sem, *], ?_⟩
    exact ⟨_, by rw [HF.out], by rw [HF.out]; exact ⟨_, _, rfl, QRow.nil _ _, QRow.nil _ _, show InI (0 : Int) from (by unfold InI; omega), Nat.zero_le _, Nat.zero_le _⟩, below3 HB5.out _ (by omega) _ _ _⟩
  | true =>
    have HF : Hid (negP c = normP (negL c.lits) c.coefs (sumP (c.lits.zip c.coefs) - c.bound + 1)) := Lib.hid (if_pos hv)
    have HV := Lib.hid hv
    have HLN := Lib.hid (pbV_parts hv).1
    have hbb := (pbV_parts hv).2
    obtain ⟨hb0, hb1', -, hlen⟩ := hbb
    clear hv
    gi_wp2_with (first | (refine ⟨trivial, ?_⟩; gi_at_call 45; refine (callsIn_wide.2 (parts_any _ _ _ _ ⟨_, _, _, rfl⟩ ⟨_, _, _, rfl⟩)).mono ?_; rintro e w1 ⟨rfl, hb1, hp1⟩) | (refine ⟨trivial, ?_⟩; gi_at_call 30; refine (callsIn_wide.2 (pbValid_any _ c _ HC0.out)).mono ?_; rintro e w5 ⟨ev, hb5⟩; rw [HV.out] at ev; subst ev; have C0 := Lib.hid (B0.out.below hb5); have C1 := Lib.hid (B1.out.below hb5); have kv0 := C0.out.cell; have kv1 := C1.out.cell; have kf1 := C1.out.free; have HB5 := Lib.hid (bon HAL.out hb5); have hz6 : w.heap.size < w5.heap.size := C0.out.lt; have hz7 : w.heap.size + 1 < w5.heap.size := C1.out.lt; clear hb5))
    have b0 := ((C0.out.alloc (.cells #[.slice none 0 0] 23)).alloc (.cells #[.int .i64 0] 3)).below hb1
    have b1 := ((C1.out.alloc (.cells #[.slice none 0 0] 23)).alloc (.cells #[.int .i64 0] 3)).below hb1
    have hbw := bon (bal (bal HB5.out (.cells #[.slice none 0 0] 23)) (.cells #[.int .i64 0] 3)) hb1
    have hz := hp1.lt
    have bo : Boxed w1 w5.heap.size 23 (.slice none 0 0) := ((Blk.new w5 [.slice none 0 0] 23).alloc (.cells #[.int .i64 0] 3)).below hb1
    have bs : Blk w1 (w5.heap.size + 1) [.int .i64 0] 3 := (Blk.new2 w5 (.cells #[.slice none 0 0] 23) [.int .i64 0] 3).below hb1
    have hz5 : w.heap.size + 1 < w5.heap.size := C1.out.lt
    simp only [World.size_alloc] at hz hp1 hb1
    have hst : PartSt w w1 [w5.heap.size, w5.heap.size + 1] (w5.heap.size + 1 + 1) (.slice a1 c.lits.length c1) (.slice a2 c.coefs.length c2) c.bound := ⟨fun i hi => hbw.block i hi, hbw.size, hp1⟩
    clear hb1 hp1
    refine parts_loop HL.out HK.out HLN.out hst (fun s hs => by simp only [List.mem_cons, List.not_mem_nil, or_false] at hs; omega) (by simp <;> omega) (by omega) rfl rfl
      (fun pre W => NgSt c w.heap.size (w5.heap.size + 1) w5.heap.size w1.heap.size (.slice a1 c.lits.length c1) (.slice a2 c.coefs.length c2) pre W ∧ Up w w1 W)
      (fun _ _ _ => False)
      (OwnFrom.and NgSt.own (Up.own hbw.size)) (fun _ _ _ _ _ h _ _ => h)
      ⟨⟨b0, b1, bs, _, bo, World.ownsRow_nil _ _ _ _, trivial⟩, hbw, Nat.le_refl _⟩ ?a1 ?assign ?body ?done ?stop
    case assign =>
      intro l x W K hK
      gi_wp2
      exact hK
    case body =>
      rintro l pre x W ⟨⟨k0, k1, k2, v1, kv, krow, -⟩, hU⟩ hlt
      have he := pv_elem HV.out x
      have hsb := sumP_bound HV.out (pre := pre) (by omega)
      obtain ⟨⟨x1, x2⟩, hx⟩ := x
      dsimp only at he ⊢
      have hx1 : -65536 ≤ x1 ∧ x1 ≤ 65536 := by omega
      have hx2 : 1 ≤ x2 ∧ x2 ≤ 16777216 := he.2.2.2
      have HU := Lib.hid hU
      have HK0 := Lib.hid k0
      have HK1 := Lib.hid k1
      have HK2 := Lib.hid k2
      have HKV := Lib.hid kv
      have HROW := Lib.hid krow
      have q3 := kv.cell
      have hU3 : w1.heap.size ≤ W.heap.size := hU.size
      have hun : (ngL pre).length ≤ pre.length := Nat.le_of_eq (ngL_len pre)
      have HSN : Hid (ngL (pre ++ [⟨(x1, x2), hx⟩]) = ngL pre ++ [-x1]) := Lib.hid (ngL_snoc _ _)
      have HSS : Hid (sumP (pvs (pre ++ [⟨(x1, x2), hx⟩])) = sumP (pvs pre) + x2) := Lib.hid (by rw [pvs_snoc]; exact sumP_snoc _ _)
      have hzs : w5.heap.size + 1 < w1.heap.size := by omega
      clear k0 k1 k2 kv krow hU he hst b0 b1 bo bs
      generalize sumP (pvs pre) = S9 at *
      gi_wp2_with (gi_at_builtin; (refine wpListIn_append_own _ rfl _ _ 23 rfl w1.heap.size 3 i0 (.int .i64 0) 1 8 Tryz.underlying23 hi hz0 hz1 hz2 rfl (by decide) _ _ _ rfl (HROW.out.alloc _) ⟨W.heap.size, 0, none⟩ 1 1 [.int .i64 (-x1)] rfl rfl (cell_one_new _ _ _) (by simp [Value.oneCell']) (by unfold maxLen; omega) (by omega) (by simp; omega) ?_); intro v' w7 hown' hgrow _; obtain ⟨g', cap', rfl⟩ := ownsRow_succ hown'; obtain ⟨hv1, hv2, hr2, hk2, hl2⟩ := appended_lim HKV.out (by decide) HROW.out hU3 (by omega) hown' hgrow; have hc1 := hv1.cell; have hf1 := hv1.frozen; have hsm := (HK2.out.same (hl2.block _ (by omega) (by simp only [List.mem_singleton]; omega))); have hs7 : Blk w7 (w5.heap.size + 1) [.int .i64 S9] 3 := (Below.heap_setCell _ _ _ _ (by show w5.heap.size + 1 ≠ w5.heap.size; omega)).symm.trans hsm; have hc2 := hs7.cell 0; have hf2 := hs7.free 0)
      have hk3 := hk2.trans (KeepsOthers.setCell _ ⟨w5.heap.size + 1, 0, none⟩ (.int .i64 (S9 + x2)))
      have hl3 : Lim w1.heap.size [w5.heap.size, w5.heap.size + 1] W _ := (hl2.mono (S' := [w5.heap.size, w5.heap.size + 1]) (Nat.le_refl _) (fun i hi _ => by rw [List.mem_singleton.1 hi]; exact .head _)).trans (Lim.setCell (o := 0) (.int .i64 (S9 + x2)) (.inl (.tail _ (.head _))))
      have hb7 : Below w.heap.size W _ := (hl3.mono (m := w.heap.size) (S' := [w5.heap.size, w5.heap.size + 1]) (by omega) (fun i hi _ => hi)).below (fun i hi => by simp only [List.mem_cons, List.not_mem_nil, or_false] at hi; omega)
      have hr3 := hr2.kept (grownBy_setCell' _ (w5.heap.size + 1) (.int .i64 (S9 + x2))) (.inr (fun e => by
        rcases hr2.2 with ⟨e0, -⟩ | ⟨g2, cap2, cur2, e2, hb2, -⟩
        · cases e0
        · rw [e2] at e
          simp only [Value.ownBlock, Option.some.injEq] at e
          omega))
      refine ⟨hk3, hl3, ⟨HK0.out.same (hl3.block _ (by omega) (by simp only [List.mem_cons, List.not_mem_nil, or_false]; omega)), HK1.out.same (hl3.block _ (by omega) (by simp only [List.mem_cons, List.not_mem_nil, or_false]; omega)), ?_, _, (Below.heap_setCell _ _ _ _ (by show w5.heap.size ≠ w5.heap.size + 1; omega)).trans hv2, ?_, trivial⟩, HU.out.below.trans hb7, Nat.le_trans HU.out.size hl3.size⟩
      · rw [HSS.out]
        exact hsm.set 0 _
      · rw [HSN.out]
        simpa using hr3
    case done =>
      rintro D xs W hD hS ⟨⟨k0, k1, k2, v1, kv, krow, -⟩, hU⟩ hK
      have q0 := kv.cell
      have q1 := k0.cell
      have q2 := k2.cell 0
      have hun : (ngL xs).length ≤ xs.length := Nat.le_of_eq (ngL_len xs)
      have hlx : xs.length = c.lits.length := by
        have := congrArg List.length hS
        rw [pvs_len, List.length_zip, ← HLN.out, Nat.min_self] at this
        exact this
      have hsb := sumP_bound HV.out (pre := xs) (by omega)
      have HE : Hid (ngL xs = negL c.lits) := Lib.hid (ngL_all HLN.out hS)
      have HSU : Hid (sumP (pvs xs) = sumP (c.lits.zip c.coefs)) := Lib.hid (congrArg sumP hS)
      obtain ⟨a9, n9, c9, rfl⟩ : ∃ a n c, v1 = .slice a n c := by
        rcases krow.2 with ⟨rfl, -⟩ | ⟨g, cap, cur, rfl, -⟩
        · exact ⟨_, _, _, rfl⟩
        · exact ⟨_, _, _, rfl⟩
      have HLI : Hid (Ints W (.slice a9 n9 c9) (negL c.lits)) := Lib.hid (by
        rw [← HE.out]
        exact (own_of_row krow (by omega) (fun i => by
          by_cases hi : i < (ngL xs).length
          · have hm := ix_mem hi
            unfold ngL at hm
            obtain ⟨y, hy, e⟩ := List.mem_map.1 hm
            rw [hS] at hy
            have := pbV_lits HV.out hy
            unfold ngL
            omega
          · unfold ix
            rw [List.getD_eq_getElem?_getD, List.getElem?_eq_none (by omega)]
            simp)).ints)
      have HKI := Lib.hid (HK.out.below hU.below)
      have HR := Lib.hid k1
      have HUB := Lib.hid hU.below
      have hDW : D < W.heap.size := (Array.getElem?_eq_some_iff.1 hK).1
      have HK3 := Lib.hid hK
      have HDW := Lib.hid hDW
      have hzw : w.heap.size + 1 < W.heap.size := k1.lt
      have HZZ := Lib.hid hzw
      have HF2 : Hid (negP c = normP (negL c.lits) c.coefs (sumP (pvs xs) - c.bound + 1)) := Lib.hid (by rw [HF.out, HSU.out])
      have hD1 : w.heap.size + 1 < D := by omega
      clear k0 k1 k2 kv krow hS hU hK hst b0 b1 bo bs hDW HF HSU HE
      generalize sumP (pvs xs) = S9 at *
      gi_wp2_with (refine ⟨trivial, ?_⟩; gi_at_call 44; refine (callsIn_wide.2 (norm_any _ _ (negL c.lits) c.coefs (S9 - c.bound + 1) _ HLI.out HKI.out (by unfold InI; omega))).mono ?_; rintro e w8 ⟨vp, rfl, ⟨vl, vk, rfl, hq1, hq2, hq3, hq4, hq5⟩, hb8⟩; obtain ⟨al, nl, cl, rfl⟩ := hq1.form; obtain ⟨ak, nk, ck, rfl⟩ := hq2.form; have HQ1 := Lib.hid hq1; have HQ2 := Lib.hid hq2; have HQ3 := Lib.hid hq3; have HQ4 := Lib.hid hq4; have HQ5 := Lib.hid hq5; have HB8 := Lib.hid hb8; have hz8 := HR.out.below hb8; have HZ8 := Lib.hid hz8; have kx := hz8.cell; have kf := hz8.free; clear hq1 hq2 hq3 hq4 hq5 hb8 hz8)
      have hK4 : ((((w8.setCell ⟨w.heap.size + 1, 0, none⟩ (.slice al nl cl)).setCell ⟨w.heap.size + 1, 1, none⟩ (.slice ak nk ck)).setCell ⟨w.heap.size + 1, 2, none⟩ (.int .i64 (normP (negL c.lits) c.coefs (S9 - c.bound + 1)).1.bound)).heap[D]? = some (.deferred (some []))) :=
        ((((Below.heap_setCell _ _ _ _ (by show D ≠ w.heap.size + 1; omega)).trans (Below.heap_setCell _ _ _ _ (by show D ≠ w.heap.size + 1; omega))).trans (Below.heap_setCell _ _ _ _ (by show D ≠ w.heap.size + 1; omega))).trans (HB8.out.block D HDW.out)).trans HK3.out
      have hzB : Blk (((w8.setCell ⟨w.heap.size + 1, 0, none⟩ (.slice al nl cl)).setCell ⟨w.heap.size + 1, 1, none⟩ (.slice ak nk ck)).setCell ⟨w.heap.size + 1, 2, none⟩ (.int .i64 (normP (negL c.lits) c.coefs (S9 - c.bound + 1)).1.bound)) (w.heap.size + 1) [.slice al nl cl, .slice ak nk ck, .int .i64 (normP (negL c.lits) c.coefs (S9 - c.bound + 1)).1.bound] 25 := ((HZ8.out.set 0 _).set 1 _).set 2 _
      have hq1 := row3 HQ1.out (w.heap.size + 1) HZZ.out (.slice al nl cl) (.slice ak nk ck) (.int .i64 (normP (negL c.lits) c.coefs (S9 - c.bound + 1)).1.bound)
      have hq2 := row3 HQ2.out (w.heap.size + 1) HZZ.out (.slice al nl cl) (.slice ak nk ck) (.int .i64 (normP (negL c.lits) c.coefs (S9 - c.bound + 1)).1.bound)
      have hbF := below3 (bon HUB.out HB8.out) (w.heap.size + 1) (by omega) (.slice al nl cl) (.slice ak nk ck) (.int .i64 (normP (negL c.lits) c.coefs (S9 - c.bound + 1)).1.bound)
      refine ⟨by simp, .inl ⟨_, _, rfl, run_takeDeferred hK4, ?_⟩⟩
      generalize ((w8.setCell ⟨w.heap.size + 1, 0, none⟩ (.slice al nl cl)).setCell ⟨w.heap.size + 1, 1, none⟩ (.slice ak nk ck)).setCell ⟨w.heap.size + 1, 2, none⟩ (.int .i64 (normP (negL c.lits) c.coefs (S9 - c.bound + 1)).1.bound) = W9 at *
      have hrow : ∀ r, some D = some r → ∃ o : Obj, W9.heap[r]? = some o ∧ o.isCells = false := fun r e => by cases e; exact ⟨_, hK4, rfl⟩
      have kz := (blk_own _ _ _ () W9 _ _ hzB (grownBy_putObj' W9 D (.deferred none)) hrow).cell
      refine ⟨.tuple #[.agg #[.slice al nl cl, .slice ak nk ck, .int .i64 (normP (negL c.lits) c.coefs (S9 - c.bound + 1)).1.bound], .int .i64 (normP (negL c.lits) c.coefs (S9 - c.bound + 1)).2], by simp [results, Tryz.f31, go_sem, kz], _, by rw [HF2.out], ?_, hbF.trans (belowK_b (w := w) (Nat.le_refl _) W9 D _ _ (by omega) hK4 rfl rfl)⟩
      rw [HF2.out]
      have hzz := HZZ.out
      exact ⟨_, _, rfl, (hq1.ownR (grownBy_putObj' W9 D (.deferred none)) hrow).mono (by omega), (hq2.ownR (grownBy_putObj' W9 D (.deferred none)) hrow).mono (by omega), HQ3.out, HQ4.out, HQ5.out⟩
    case stop => rintro D e pre W hD hS ⟨⟩
end Go.Proofs.YteblddnoegbalaaGreat
namespace Go.Proofs.YteblddnoegbalaaGreat
open Go.RowKit
attribute [local go_sem] memUpon
structure Mine (B : Nat) (v : Value) (L : List RQ) (w : World) : Prop where
  row : w.ownsRow B 66 6 v L.length (L.flatMap cells6)
  each : ∀ q ∈ L, QRow B w q.2.1 q.1.head ∧ QRow B w q.2.2.1 q.1.body ∧ QRow B w q.2.2.2 q.1.w ∧ InI q.1.bound
theorem Mine.nil (B : Nat) (w : World) : Mine B (.slice none 0 0) [] w := ⟨⟨by simp, .inl ⟨rfl, rfl⟩⟩, fun q hq => by simp at hq⟩
section
variable {B n : Nat} {xs : List Value} {v : Value} {w w' : World} {L : List RQ}
theorem QRow.rowKept {u : Value} {l : List Int} (h : QRow B w u l) (hr : w.ownsRow B 66 6 v n xs) (hg : w.grownBy w' v.ownBlock) : QRow B w' u l := by
  refine h.kept fun i hi hi2 hu => hg.block i hi2 (fun e => ?_)
  rcases hr.2 with ⟨rfl, _⟩ | ⟨g, cap, cur, rfl, hb, hgg, _⟩
  · cases e
  · simp only [Value.ownBlock, Option.some.injEq] at e
    subst e
    rcases h.2 with ⟨rfl, _⟩ | ⟨g', off, cap', cur', rfl, _, hgg', _⟩
    · cases hu
    · simp only [Value.ownBlock, Option.some.injEq] at hu
      subst hu
      rw [hgg'] at hgg
      have := Option.some.inj hgg
      injection this with _ h2 _
      revert h2; decide
theorem Mine.below (h : Mine B v L w) (hb : Below w.heap.size w w') : Mine B v L w' :=
  ⟨rowBelow h.row hb, fun q hq => let ⟨h1, h2, h3, h4⟩ := h.each q hq; ⟨h1.below hb, h2.below hb, h3.below hb, h4⟩⟩
theorem Mine.push {g cap : Nat} {q : RQ} (h : Mine B v L w) (hq : QRow B w q.2.1 q.1.head ∧ QRow B w q.2.2.1 q.1.body ∧ QRow B w q.2.2.2 q.1.w ∧ InI q.1.bound)
    (hown : w'.ownsRow B 66 6 (.slice (some ⟨g, 0, none⟩) (L.length + 1) cap) (L.length + 1) (L.flatMap cells6 ++ cells6 q)) (hg : w.grownBy w' v.ownBlock) : Mine B (.slice (some ⟨g, 0, none⟩) (L.length + 1) cap) (L ++ [q]) w' := by
  refine ⟨by simpa using hown, fun q' hq' => ?_⟩
  simp only [List.mem_append, List.mem_singleton] at hq'
  rcases hq' with hq' | rfl
  · obtain ⟨h1, h2, h3, h4⟩ := h.each q' hq'
    exact ⟨h1.rowKept h.row hg, h2.rowKept h.row hg, h3.rowKept h.row hg, h4⟩
  · obtain ⟨h1, h2, h3, h4⟩ := hq
    exact ⟨h1.rowKept h.row hg, h2.rowKept h.row hg, h3.rowKept h.row hg, h4⟩
theorem Mine.setCell (h : Mine B v L w) {b : Nat} (o : Nat) (u : Value) (hb : b < B) : Mine B v L (w.setCell ⟨b, o, none⟩ u) := by
  have hk : ∀ i, B ≤ i → (w.setCell ⟨b, o, none⟩ u).heap[i]? = w.heap[i]? := fun i hi => Below.heap_setCell _ _ _ _ (show i ≠ b by omega)
  refine ⟨⟨h.row.1, ?_⟩, fun q hq => let ⟨h1, h2, h3, h4⟩ := h.each q hq; ⟨h1.kept fun i hi _ _ => hk i hi, h2.kept fun i hi _ _ => hk i hi, h3.kept fun i hi _ _ => hk i hi, h4⟩⟩
  rcases h.row.2 with hn | ⟨g, cap, cur, e, hbg, hgg, rest⟩
  · exact .inl hn
  · exact .inr ⟨g, cap, cur, e, hbg, (hk g hbg).trans hgg, rest⟩
theorem Mine.rules (h : Mine B v L w) (l : List GR) (hl : L.map (·.1) = l) (hfit : L.length * 88 ≤ 140737488351232) (hlen : ∀ q ∈ L, q.1.head.length * 8 ≤ 140737488351232 ∧ q.1.body.length * 8 ≤ 140737488351232 ∧ q.1.w.length * 8 ≤ 140737488351232) :
    RulesAt w v l (fun i => (L.getD i default).2.1) (fun i => (L.getD i default).2.2.1) (fun i => (L.getD i default).2.2.2) := by
  have hlen' : l.length = L.length := by rw [← hl]; simp
  have hq : ∀ i, i < l.length → L.getD i default ∈ L ∧ (L.getD i default).1 = ixR l i := fun i hi => by
    have hi' : i < L.length := by omega
    have e : L.getD i default = L[i] := by simp [List.getD_eq_getElem?_getD, List.getElem?_eq_getElem hi']
    rw [e]
    refine ⟨List.getElem_mem hi', ?_⟩
    subst hl
    simp [ixR, List.getD_eq_getElem?_getD, List.getElem?_eq_getElem hi']
  refine ⟨?_, fun i hi => ?_⟩
  · rw [hlen']
    rcases h.row.2 with ⟨rfl, h0⟩ | ⟨g, cap, cur, rfl, hb, hg, hn, hm, hs, hx⟩
    · exact ⟨none, 0, by rw [h0], by omega, by unfold maxLen; omega, by omega, fun hp => by omega⟩
    · refine ⟨_, cap, rfl, hn, hm, hfit, fun _ => ⟨g, 0, rfl, (Array.getElem?_eq_some_iff.1 hg).1, fun i hi j hj => ?_⟩⟩
      have h6 := flat6 L i j hi hj
      rw [← hx, List.getElem?_take_of_lt (by omega)] at h6
      rw [cell_of_row w g (0 + i * 6 + j) cur _ (0, 0) hg, Nat.zero_add]
      have e2 := (hq i (by omega)).2
      dsimp only
      rw [← e2]
      have : cur[i * 6 + j]? = cur.toList[i * 6 + j]? := by simp
      rw [this, h6]
      rcases (show j = 0 ∨ j = 1 ∨ j = 2 ∨ j = 3 ∨ j = 4 ∨ j = 5 by omega) with rfl | rfl | rfl | rfl | rfl | rfl <;> rfl
  · obtain ⟨hm, e⟩ := hq i hi
    obtain ⟨h1, h2, h3, h4⟩ := h.each _ hm
    obtain ⟨g1, g2, g3⟩ := hlen _ hm
    rw [← e]
    exact ⟨h1.ints g1, h2.ints g2, h3.ints g3, h4⟩
end
structure MW (B H : Nat) (ar : Option Addr) (n : Nat) (L : List RQ) (w : World) : Prop where
  row : 0 < n → ∃ b off cur, ar = some ⟨b, off, none⟩ ∧ B ≤ b ∧ b < H ∧ Blk w b cur 66 ∧ ∀ i, i < n → cur[off + i * 6 + 4]? = some (L.getD i default).2.2.1 ∧ ∃ bd : Int, cur[off + i * 6 + 3]? = some (.int .i64 bd)
  body : ∀ i, i < n → ∃ a c, (L.getD i default).2.2.1 = .slice a (L.getD i default).1.body.length c ∧ (0 < (L.getD i default).1.body.length → ∃ g off cur, a = some ⟨g, off, none⟩ ∧ B ≤ g ∧ g < H ∧ Blk w g cur 3 ∧ off + (L.getD i default).1.body.length ≤ cur.length)
section
variable {B H n : Nat} {ar : Option Addr} {L : List RQ} {w w' : World}
theorem MW.below (h : MW B H ar n L w) (hb : Below w.heap.size w w') : MW B H ar n L w' :=
  ⟨fun h0 => let ⟨b, off, cur, e, h1, h2, h3, h4⟩ := h.row h0; ⟨b, off, cur, e, h1, h2, h3.below hb, h4⟩,
   fun i hi => let ⟨a, c, e, k⟩ := h.body i hi; ⟨a, c, e, fun h0 => let ⟨g, off, cur, e, h1, h2, h3, h4⟩ := k h0; ⟨g, off, cur, e, h1, h2, h3.below hb, h4⟩⟩⟩
theorem MW.at {b off k nb c : Nat} {a : Option Addr} (h : MW B H (some ⟨b, off, none⟩) n L w) (hk : k < n) (e : (L.getD k default).2.2.1 = .slice a nb c) :
    (∃ cur, Blk w b cur 66 ∧ B ≤ b ∧ b < H) ∧ w.cell? ⟨b, off + k * 6 + 4, none⟩ = some (.slice a nb c) ∧ (∃ bd : Int, w.cell? ⟨b, off + k * 6 + 3, none⟩ = some (.int .i64 bd)) ∧ w.frozen? ⟨b, off + k * 6 + 3, none⟩ = false ∧
      (0 < nb → ∃ g off2 cur2, a = some ⟨g, off2, none⟩ ∧ B ≤ g ∧ g < H ∧ Blk w g cur2 3 ∧ off2 + nb ≤ cur2.length) := by
  obtain ⟨b', off', cur, e1, h1, h2, h3, h4⟩ := h.row (by omega)
  simp only [Option.some.injEq, Addr.mk.injEq, and_true] at e1
  obtain ⟨rfl, rfl⟩ := e1
  obtain ⟨k1, bd, k2⟩ := h4 k hk
  rw [e] at k1
  obtain ⟨a', c', e', k5⟩ := h.body k hk
  rw [e] at e'
  simp only [Value.slice.injEq] at e'
  obtain ⟨rfl, rfl, rfl⟩ := e'
  exact ⟨⟨cur, h3, h1, h2⟩, (h3.cell _).trans k1, ⟨bd, (h3.cell _).trans k2⟩, h3.free _, k5⟩
end
end Go.Proofs.YteblddnoegbalaaGreat
namespace Go.Proofs.YteblddnoegbalaaGreat
open Go.RowKit
def IntsX (w0 W : World) (v : Value) (l : List Int) : Prop := Ints w0 v l ∨ (QRow w0.heap.size W v l ∧ l.length ≤ 1000000000)
theorem IntsX.old {w0 W : World} {v : Value} {l : List Int} (h : Ints w0 v l) : IntsX w0 W v l := .inl h
theorem IntsX.own {w0 W : World} {v : Value} {l : List Int} (h : QRow w0.heap.size W v l) (hl : l.length ≤ 1000000000) : IntsX w0 W v l := .inr ⟨h, hl⟩
theorem IntsX.below {w0 W W' : World} {v : Value} {l : List Int} (h : IntsX w0 W v l) (hb : Below W.heap.size W W') : IntsX w0 W' v l := h.imp id fun h => ⟨h.1.below hb, h.2⟩
theorem IntsX.ints {w0 W : World} {v : Value} {l : List Int} (h : IntsX w0 W v l) (hb : Below w0.heap.size w0 W) : Ints W v l := h.elim (·.below hb) fun h => h.1.ints (by have := h.2; omega)
theorem IntsX.sl {w0 W : World} {v : Value} {l : List Int} (h : IntsX w0 W v l) : ∃ a c, v = .slice a l.length c := by
  rcases h with h | h
  · obtain ⟨a, c, rfl, -⟩ := h.form; exact ⟨a, c, rfl⟩
  · exact h.1.slen
def RuleX (w0 W : World) (q : RQ) : Prop := IntsX w0 W q.2.1 q.1.head ∧ IntsX w0 W q.2.2.1 q.1.body ∧ IntsX w0 W q.2.2.2 q.1.w ∧ InI q.1.bound
theorem RuleX.below {w0 W W' : World} {q : RQ} (h : RuleX w0 W q) (hb : Below W.heap.size W W') : RuleX w0 W' q := ⟨h.1.below hb, h.2.1.below hb, h.2.2.1.below hb, h.2.2.2⟩
structure RowR (w0 : World) (v : Value) (L : List RQ) (W : World) : Prop where
  row : W.ownsRow w0.heap.size 66 6 v L.length (L.flatMap cells6)
  each : ∀ q ∈ L, RuleX w0 W q
theorem RowR.nil (w0 W : World) : RowR w0 (.slice none 0 0) [] W := ⟨⟨by simp, .inl ⟨rfl, rfl⟩⟩, fun q hq => by simp at hq⟩
section
variable {w0 W W' : World} {v : Value} {L : List RQ}
theorem RowR.below (h : RowR w0 v L W) (hb : Below W.heap.size W W') : RowR w0 v L W' := ⟨rowBelow h.row hb, fun q hq => (h.each q hq).below hb⟩
theorem RowR.slen (h : RowR w0 v L W) : ∃ a c, v = .slice a L.length c := by
  rcases h.row.2 with ⟨rfl, h0⟩ | ⟨g, cap, cur, rfl, _⟩
  · rw [h0]; exact ⟨_, _, rfl⟩
  · exact ⟨_, _, rfl⟩
theorem IntsX.rowKept {u : Value} {l : List Int} (h : IntsX w0 W u l) (hr : RowR w0 v L W) (hg : W.grownBy W' v.ownBlock) : IntsX w0 W' u l := h.imp id fun h => ⟨h.1.rowKept hr.row hg, h.2⟩
theorem RuleX.rowKept {q : RQ} (h : RuleX w0 W q) (hr : RowR w0 v L W) (hg : W.grownBy W' v.ownBlock) : RuleX w0 W' q := ⟨h.1.rowKept hr hg, h.2.1.rowKept hr hg, h.2.2.1.rowKept hr hg, h.2.2.2⟩
theorem RowR.far (h : RowR w0 v L W) {b : Nat} {c : List Value} {T : TypeId} (hb : Blk W b c T) (hT : T ≠ 66) : v.ownBlock ≠ some b := fun e => by
  rcases h.row.2 with ⟨rfl, _⟩ | ⟨g, cap, cur, rfl, hg, hgg, _⟩
  · cases e
  · have : g = b := by simpa [Value.ownBlock] using e
    subst this
    unfold Blk at hb
    rw [hb] at hgg
    injection hgg with hgg
    injection hgg with _ h2 _
    exact hT h2
theorem RowR.lo (h : RowR w0 v L W) {g : Nat} (e : v.ownBlock = some g) : w0.heap.size ≤ g := by
  rcases h.row.2 with ⟨rfl, _⟩ | ⟨g', cap, cur, rfl, hb, _⟩
  · cases e
  · have : g' = g := by simpa [Value.ownBlock] using e
    omega
theorem RowR.same (h : RowR w0 v L W) (hr : ∀ i, w0.heap.size ≤ i → i < W.heap.size → v.ownBlock = some i → W'.heap[i]? = W.heap[i]?) (hq : ∀ q ∈ L, RuleX w0 W' q) : RowR w0 v L W' := by
  refine ⟨⟨h.row.1, ?_⟩, hq⟩
  rcases h.row.2 with hn | ⟨g, cap, cur, rfl, hb, hg, rest⟩
  · exact .inl hn
  · exact .inr ⟨g, cap, cur, rfl, hb, (hr g hb (Array.getElem?_eq_some_iff.1 hg).1 rfl).trans hg, rest⟩
theorem RowR.rules (h : RowR w0 v L W) (hb : Below w0.heap.size w0 W) (hfit : L.length ≤ 1000000) : RulesIs W v (L.map (·.1)) := by
  have hlen : (L.map (·.1)).length = L.length := by simp
  have hq : ∀ i, i < L.length → L.getD i default ∈ L ∧ (L.getD i default).1 = ixR (L.map (·.1)) i := fun i hi => by
    have e : L.getD i default = L[i] := by simp [List.getD_eq_getElem?_getD, List.getElem?_eq_getElem hi]
    rw [e]
    exact ⟨List.getElem_mem hi, by simp [ixR, List.getD_eq_getElem?_getD, List.getElem?_eq_getElem hi]⟩
  refine ⟨fun i => (L.getD i default).2.1, fun i => (L.getD i default).2.2.1, fun i => (L.getD i default).2.2.2, ?_, fun i hi => ?_⟩
  · rw [hlen]
    rcases h.row.2 with ⟨rfl, h0⟩ | ⟨g, cap, cur, rfl, hb, hg, hn, hm, hs, hx⟩
    · exact ⟨none, 0, by rw [h0], by omega, by unfold maxLen; omega, by omega, fun hp => by omega⟩
    · refine ⟨_, cap, rfl, hn, hm, by omega, fun _ => ⟨g, 0, rfl, (Array.getElem?_eq_some_iff.1 hg).1, fun i hi j hj => ?_⟩⟩
      have h6 := flat6 L i j hi hj
      rw [← hx, List.getElem?_take_of_lt (by omega)] at h6
      rw [cell_of_row W g (0 + i * 6 + j) cur _ (0, 0) hg, Nat.zero_add]
      have e2 := (hq i (by omega)).2
      dsimp only
      rw [← e2]
      have : cur[i * 6 + j]? = cur.toList[i * 6 + j]? := by simp
      rw [this, h6]
      rcases (show j = 0 ∨ j = 1 ∨ j = 2 ∨ j = 3 ∨ j = 4 ∨ j = 5 by omega) with rfl | rfl | rfl | rfl | rfl | rfl <;> rfl
  · rw [hlen] at hi
    obtain ⟨hm, e⟩ := hq i hi
    obtain ⟨h1, h2, h3, h4⟩ := h.each _ hm
    rw [← e]
    exact ⟨h1.ints hb, h2.ints hb, h3.ints hb, h4⟩
end
def PBX (w0 W : World) (q : CQ) : Prop := IntsX w0 W q.2.1 q.1.lits ∧ IntsX w0 W q.2.2 q.1.coefs ∧ InI q.1.bound
theorem PBX.below {w0 W W' : World} {q : CQ} (h : PBX w0 W q) (hb : Below W.heap.size W W') : PBX w0 W' q := ⟨h.1.below hb, h.2.1.below hb, h.2.2⟩
structure RowP (w0 : World) (v : Value) (L : List CQ) (W : World) : Prop where
  row : W.ownsRow w0.heap.size 25 3 v L.length (L.flatMap cells3)
  each : ∀ q ∈ L, PBX w0 W q
theorem RowP.nil (w0 W : World) : RowP w0 (.slice none 0 0) [] W := ⟨⟨by simp, .inl ⟨rfl, rfl⟩⟩, fun q hq => by simp at hq⟩
section
variable {w0 W W' : World} {v : Value} {L : List CQ}
theorem RowP.below (h : RowP w0 v L W) (hb : Below W.heap.size W W') : RowP w0 v L W' := ⟨rowBelow h.row hb, fun q hq => (h.each q hq).below hb⟩
theorem RowP.slen (h : RowP w0 v L W) : ∃ a c, v = .slice a L.length c := by
  rcases h.row.2 with ⟨rfl, h0⟩ | ⟨g, cap, cur, rfl, _⟩
  · rw [h0]; exact ⟨_, _, rfl⟩
  · exact ⟨_, _, rfl⟩
theorem IntsX.rowKeptP {u : Value} {l : List Int} (h : IntsX w0 W u l) (hr : RowP w0 v L W) (hg : W.grownBy W' v.ownBlock) : IntsX w0 W' u l := h.imp id fun h => ⟨h.1.rowKeptC hr.row hg, h.2⟩
theorem PBX.rowKept {q : CQ} (h : PBX w0 W q) (hr : RowP w0 v L W) (hg : W.grownBy W' v.ownBlock) : PBX w0 W' q := ⟨h.1.rowKeptP hr hg, h.2.1.rowKeptP hr hg, h.2.2⟩
theorem RowP.far (h : RowP w0 v L W) {b : Nat} {c : List Value} {T : TypeId} (hb : Blk W b c T) (hT : T ≠ 25) : v.ownBlock ≠ some b := fun e => by
  rcases h.row.2 with ⟨rfl, _⟩ | ⟨g, cap, cur, rfl, hg, hgg, _⟩
  · cases e
  · have : g = b := by simpa [Value.ownBlock] using e
    subst this
    unfold Blk at hb
    rw [hb] at hgg
    injection hgg with hgg
    injection hgg with _ h2 _
    exact hT h2
theorem RowP.lo (h : RowP w0 v L W) {g : Nat} (e : v.ownBlock = some g) : w0.heap.size ≤ g ∧ g < W.heap.size := by
  rcases h.row.2 with ⟨rfl, _⟩ | ⟨g', cap, cur, rfl, hb, hg, _⟩
  · cases e
  · have : g' = g := by simpa [Value.ownBlock] using e
    have := (Array.getElem?_eq_some_iff.1 hg).1
    omega
theorem RowP.same (h : RowP w0 v L W) (hr : ∀ i, w0.heap.size ≤ i → i < W.heap.size → v.ownBlock = some i → W'.heap[i]? = W.heap[i]?) (hq : ∀ q ∈ L, PBX w0 W' q) : RowP w0 v L W' := by
  refine ⟨⟨h.row.1, ?_⟩, hq⟩
  rcases h.row.2 with hn | ⟨g, cap, cur, rfl, hb, hg, rest⟩
  · exact .inl hn
  · exact .inr ⟨g, cap, cur, rfl, hb, (hr g hb (Array.getElem?_eq_some_iff.1 hg).1 rfl).trans hg, rest⟩
theorem RowP.pbs (h : RowP w0 v L W) (hb : Below w0.heap.size w0 W) {l : List PBC} (hl : L.map (·.1) = l) (hfit : L.length ≤ 1000000) : PBsIs W v l := by
  have hlen' : l.length = L.length := by rw [← hl]; simp
  have hq : ∀ i, i < l.length → L.getD i default ∈ L ∧ (L.getD i default).1 = ixC l i := fun i hi => by
    have hi' : i < L.length := by omega
    have e : L.getD i default = L[i] := by simp [List.getD_eq_getElem?_getD, List.getElem?_eq_getElem hi']
    rw [e]
    refine ⟨List.getElem_mem hi', ?_⟩
    subst hl
    simp [ixC, List.getD_eq_getElem?_getD, List.getElem?_eq_getElem hi']
  refine ⟨fun i => (L.getD i default).2.1, fun i => (L.getD i default).2.2, ?_, fun i hi => ?_⟩
  · rw [hlen']
    rcases h.row.2 with ⟨rfl, h0⟩ | ⟨g, cap, cur, rfl, hb, hg, hn, hm, hs, hx⟩
    · exact ⟨none, 0, by rw [h0], by omega, by unfold maxLen; omega, by omega, fun hp => by omega⟩
    · refine ⟨_, cap, rfl, hn, hm, by omega, fun _ => ⟨g, 0, rfl, (Array.getElem?_eq_some_iff.1 hg).1, fun i hi j hj => ?_⟩⟩
      have h6 := flat3 L i j hi hj
      rw [← hx, List.getElem?_take_of_lt (by omega)] at h6
      rw [cell_of_row W g (0 + i * 3 + j) cur _ (0, 0) hg, Nat.zero_add]
      have e2 := (hq i (by omega)).2
      dsimp only
      rw [← e2]
      have : cur[i * 3 + j]? = cur.toList[i * 3 + j]? := by simp
      rw [this, h6]
      rcases (show j = 0 ∨ j = 1 ∨ j = 2 by omega) with rfl | rfl | rfl <;> rfl
  · obtain ⟨hm, e⟩ := hq i hi
    obtain ⟨h1, h2, h3⟩ := h.each _ hm
    rw [← e]
    exact ⟨h1.ints hb, h2.ints hb, h3⟩
theorem MineC.rowP {B : Nat} (h : MineC B v L W) (hB : w0.heap.size ≤ B) : RowP w0 v L W :=
  ⟨ownsRow_mono h.row hB, fun q hq => let ⟨h1, h2, h3, h4, h5⟩ := h.each q hq; ⟨.own (h1.mono hB) (by omega), .own (h2.mono hB) (by omega), h3⟩⟩
end
theorem wp_appendRP {o : Oper} {a : Act} {W : World} {K : Act → World → Prop} {Q : Exit → Act → World → Prop} (s x : Operand)
    (ho : o.op = .call { callee := .builtin .append, args := #[s, x], argTypes := #[22, 22] }) (w0 : World) (v : Value) (L : List CQ) (q : CQ) (hs : a.eval s = v) (h : RowP w0 v L W) (g0 c : Nat) (hx : a.eval x = .slice (some ⟨g0, 0, none⟩) 1 c)
    (hb : Blk W g0 (cells3 q) 25) (hq : PBX w0 W q) (hlen : L.length + 1 ≤ 1000000) (hbase : Below w0.heap.size w0 W)
    (hK : ∀ g cap w', RowP w0 (.slice (some ⟨g, 0, none⟩) (L.length + 1) cap) (L ++ [q]) w' → W.grownBy w' v.ownBlock → Below w0.heap.size w0 w' → K (a.put o.dst (.slice (some ⟨g, 0, none⟩) (L.length + 1) cap)) w') : o.wp Tryz.prog a W K Q := by
  obtain ⟨i0, hi, hz0, hz1, hz2⟩ := info_parts infoC
  refine wp_append_own W s x _ ho w0.heap.size 25 i0 _ 3 56 Tryz.underlying22 hi hz0 hz1 hz2 rfl (by decide) _ L.length (L.flatMap cells3) hs h.row ⟨g0, 0, none⟩ 1 c (cells3 q) hx rfl (fun j u hu => ?_) (fun u hu => ?_) (by unfold maxLen; omega) (by omega) hbase.size (fun v' w' h1 h2 _ => ?_)
  · rw [Addr.add_lit, Nat.zero_add, hb.cell]; exact hu
  · obtain ⟨a1, c1, e1⟩ := hq.1.sl
    obtain ⟨a2, c2, e2⟩ := hq.2.1.sl
    simp only [cells3, e1, e2, List.mem_cons, List.not_mem_nil, or_false] at hu
    rcases hu with rfl | rfl | rfl <;> rfl
  · have hne : ∃ g2 cap2, v' = .slice (some ⟨g2, 0, none⟩) (L.length + 1) cap2 := by
      rcases h1.2 with ⟨-, h0⟩ | ⟨g2, cap2, cur2, rfl, _⟩
      · omega
      · exact ⟨g2, cap2, rfl⟩
    obtain ⟨g2, cap2, rfl⟩ := hne
    refine hK g2 cap2 w' ⟨by simpa using h1, fun q' hq' => ?_⟩ h2 ?_
    · simp only [List.mem_append, List.mem_singleton] at hq'
      rcases hq' with hq' | rfl
      · exact (h.each q' hq').rowKept h h2
      · exact hq.rowKept h h2
    · exact hbase.grown h2 hbase.size fun g e => (h.lo e).1
theorem wpList_appendRP {ops : Array Oper} {rest : List Oper} {o : Oper} {a : Act} {W : World} {Q : Exit → Act → World → Prop} (hgd : o.guard = none) (s x : Operand)
    (ho : o.op = .call { callee := .builtin .append, args := #[s, x], argTypes := #[22, 22] }) (w0 : World) (v : Value) (L : List CQ) (q : CQ) (hs : a.eval s = v) (h : RowP w0 v L W) (g0 c : Nat) (hx : a.eval x = .slice (some ⟨g0, 0, none⟩) 1 c)
    (hb : Blk W g0 (cells3 q) 25) (hq : PBX w0 W q) (hlen : L.length + 1 ≤ 1000000) (hbase : Below w0.heap.size w0 W)
    (hK : ∀ g cap w', RowP w0 (.slice (some ⟨g, 0, none⟩) (L.length + 1) cap) (L ++ [q]) w' → W.grownBy w' v.ownBlock → Below w0.heap.size w0 w' → wpList Tryz.prog ops Q rest (a.put o.dst (.slice (some ⟨g, 0, none⟩) (L.length + 1) cap)) w') : wpList Tryz.prog ops Q (o :: rest) a W :=
  wpList_plain hgd fun _ hK' => wp_appendRP s x ho w0 v L q hs h g0 c hx hb hq hlen hbase fun g cap w' h1 h2 h3 => hK' _ _ (hK g cap w' h1 h2 h3)
set_option maxHeartbeats 1000000 in
theorem nvalid_any (v : Value) (c : PBC) (w : World) (h : PBIs w v c) :
    Calls Tryz.prog 33 #[v] w fun e w' => e = .returned (.bool (!pbV c)) ∧ Below w.heap.size w w' := by
  have h0 := h
  obtain ⟨vl, vk, rfl, hL, hK, hbd⟩ := h
  obtain ⟨a1, c1, rfl, -⟩ := id hL.form
  obtain ⟨a2, c2, rfl, -⟩ := id hK.form
  have hal := bal (Below.refl w.heap.size w) (.cells #[.slice a1 c.lits.length c1, .slice a2 c.coefs.length c2, .int .i64 c.bound] 25)
  have HP := Lib.hid (h0.below hal)
  have HAL := Lib.hid hal
  clear h0 hL hK hbd hal
  go_enter Tryz.func33, Tryz.ntmps33
  go_wp2_with (go_at_call 30; (with_reducible refine (pbValid_any _ c _ HP.out).mono ?_); rintro e w1 ⟨rfl, hb1⟩; have HB := Lib.hid (bon HAL.out hb1); clear hb1)
  go_ret
  exact ⟨rfl, HB.out⟩
set_option maxHeartbeats 1000000 in
theorem idxP_nval (v : Value) (l : List PBC) (w : World) (h : PBsIs w v l) (g : Nat → Bool) 
    (hg : ∀ w', Below w.heap.size w w' → ∀ j, j < l.length → ∀ u, PBIs w' u (ixC l j) → Calls Tryz.prog 33 #[u] w' fun e w'' => e = .returned (.bool (g j)) ∧ Below w'.heap.size w' w'') :
    Calls Tryz.prog 59 #[v, .func (.func 33) #[] #[]] w fun e w' => ∃ r, e = .returned (.int .i64 r) ∧ IxP l.length g r ∧ Below w.heap.size w w' := by
  obtain ⟨a1, c1, rfl, -, hl1, -, hcell⟩ := h.form
  have HG := Lib.hid hg
  clear h hg
  go_enter Tryz.func59, Tryz.ntmps59
  go_wp2
  go_loopw [8] (fun i wx => IxR l.length g w i wx) (fun i _ => l.length - (intOf i).toNat)
  case atStart => exact ⟨0, by omega, rfl, fun j hj => absurd hj (Nat.not_lt_zero _), Below.refl _ _⟩
  case round =>
    obtain ⟨k, hk, rfl, hall, hb⟩ := hrel
    have HA := Lib.hid hall
    clear hall
    by_cases hlt : k < l.length
    · obtain ⟨b, off, rfl, hbl, hc⟩ := hcell (by omega)
      obtain ⟨vl, vk, ⟨k0, k1, k2⟩, hsl⟩ := hc k hlt
      have hk0 := (bcell hb _ _ hbl).trans k0
      have hk1 := (bcell hb _ _ hbl).trans k1
      have hk2 := (bcell hb _ _ hbl).trans k2
      have HRU : Hid (PBIs wr (.agg #[vl, vk, .int .i64 (ixC l k).bound]) (ixC l k)) := Lib.hid (hsl.below hb).is
      clear hc hcell k0 k1 k2 hsl
      cases g1 : g k with
      | true =>
        have HK : Hid (_ = true) := Lib.hid g1
        have HC := Lib.hid (HG.out _ hb k hlt _ HRU.out)
        rw [g1] at HC
        clear g1
        go_wp2_with (go_at_call 33; refine (HC.out).mono ?_; rintro e w1 ⟨rfl, hb1⟩)
        go_ret
        exact ⟨_, rfl, .inr ⟨k, hlt, rfl, HK.out, HA.out⟩, bon hb hb1⟩
      | false =>
        have HN := Lib.hid (lt_succ_all HA.out g1)
        have HC := Lib.hid (HG.out _ hb k hlt _ HRU.out)
        rw [g1] at HC
        clear g1
        go_wp2_with (go_at_call 33; refine (HC.out).mono ?_; rintro e w1 ⟨rfl, hb1⟩)
        first
          | (go_roundw
             case rel => (exact ⟨k + 1, by omega, by go_num, HN.out, bon hb hb1⟩)
             case measure => (simp [intOf]; omega))
          | (refine ⟨?_, ?_⟩
             · (exact ⟨k + 1, by omega, by go_num, HN.out, bon hb hb1⟩)
             · (simp [intOf]; omega))
    · have HN : Hid (∀ j, j < l.length → g j = false) := Lib.hid (fun j hj => HA.out j (by omega))
      go_wp2
      go_ret
      exact ⟨_, rfl, .inl ⟨rfl, HN.out⟩, hb⟩
set_option maxHeartbeats 1000000 in
theorem ctnP_nval (v : Value) (l : List PBC) (w : World) (h : PBsIs w v l) (g : Nat → Bool) 
    (hg : ∀ w', Below w.heap.size w w' → ∀ j, j < l.length → ∀ u, PBIs w' u (ixC l j) → Calls Tryz.prog 33 #[u] w' fun e w'' => e = .returned (.bool (g j)) ∧ Below w'.heap.size w' w'') :
    Calls Tryz.prog 32 #[v, .func (.func 33) #[] #[]] w fun e w' => e = .returned (.bool (anyR l.length g)) ∧ Below w.heap.size w w' := by
  have HI := Lib.hid (idxP_nval v l w h g  hg)
  obtain ⟨a1, c1, rfl, -⟩ := h.form
  clear h hg
  go_enter Tryz.func32, Tryz.ntmps32
  go_wp2_with (go_at_call 59; refine (HI.out).mono ?_; rintro e w1 ⟨r, rfl, hr, hb1⟩; have HR := Lib.hid hr; clear hr)
  go_ret
  exact ⟨ret_bool HR.out.any, hb1⟩
def clP (l : List PBC) (vl vk : Nat → Value) : List CQ := (List.range l.length).map fun i => (ixC l i, vl i, vk i)
theorem clP_fst (l : List PBC) (vl vk : Nat → Value) : (clP l vl vk).map (·.1) = l := by
  unfold clP
  rw [List.map_map]
  refine List.ext_getElem (by simp) fun i h1 h2 => ?_
  simp only [List.getElem_map, List.getElem_range, Function.comp]
  unfold ixC
  rw [List.getD_eq_getElem?_getD, List.getElem?_eq_getElem h2]
  rfl
theorem clP_len (l : List PBC) (vl vk : Nat → Value) : (clP l vl vk).length = l.length := by simp [clP]
theorem clP_at {l : List PBC} {vl vk : Nat → Value} {i : Nat} (h : i < l.length) : (clP l vl vk).getD i default = (ixC l i, vl i, vk i) := by
  simp [clP, List.getD, h]
theorem flat3_len : ∀ L : List CQ, (L.flatMap cells3).length = L.length * 3
  | [] => rfl
  | q :: L => by rw [List.flatMap_cons, List.length_append, flat3_len L, List.length_cons]; show 3 + _ = _; omega
set_option maxHeartbeats 1000000 in
set_option maxRecDepth 100000 in
theorem clonePB_any (v : Value) (l : List PBC) (w0 w : World) (h : PBsIs w0 v l) (hb0 : Below w0.heap.size w0 w) (hl : l.length ≤ 900000) :
    Calls Tryz.prog 35 #[v] w fun e w' => ∃ a c L, e = .returned (.slice a l.length c) ∧ RowP w0 (.slice a l.length c) L w' ∧ L.map (·.1) = l ∧ Below w.heap.size w w' := by
  obtain ⟨vl, vk, hrw, h4⟩ := h
  obtain ⟨a, cap, rfl, h1, hm, h2, h3⟩ := hrw.below hb0
  have HSZ := Lib.hid hb0.size
  clear hrw hb0
  have q : ∀ (w : World) (a : Option Addr) (n c n' c' : Nat), (binOp .eql 22 (.slice a n c) (.slice none n' c')).run Tryz.prog w = .ok (.bool a.isNone) w := fun w a n c n' c' => Lib.run_eql_slice_nil w _ _ a n c n' c' Tryz.underlying22
  cases a with
  | none =>
    have hn : l.length = 0 := by
      rcases Nat.eq_zero_or_pos l.length with h | h
      · exact h
      · obtain ⟨b, off, e, _⟩ := h3 h
        cases e
    have hl0 : l = [] := List.length_eq_zero_iff.1 hn
    subst hl0
    clear h3 h4 hn
    go_enter Tryz.func35, Tryz.ntmps35
    go_wp2
    go_ret
    exact ⟨none, 0, [], rfl, RowP.nil _ _, rfl, Below.refl _ _⟩
  | some ad =>
    obtain ⟨i0, hi, hz0, hz1, hz2⟩ := info_parts infoC
    have hfl := flat3_len (clP l vl vk)
    rw [clP_len] at hfl
    have hcell : Hid (∀ j u, ((clP l vl vk).flatMap cells3)[j]? = some u → w.cell? (ad.add j) = some u) := Lib.hid (fun j u hu => by
      have hj : j < l.length * 3 := by have := (List.getElem?_eq_some_iff.1 hu).1; omega
      obtain ⟨b, off, e, _, hc⟩ := h3 (by omega)
      cases e
      have h5 := hc (j / 3) (by omega) (j % 3) (by omega)
      have h6 := flat3 (clP l vl vk) (j / 3) (j % 3) (by rw [clP_len]; omega) (by omega)
      rw [clP_at (by omega), show j / 3 * 3 + j % 3 = j by omega, hu] at h6
      rw [Addr.add_lit, show off + j = off + j / 3 * 3 + j % 3 by omega, h5]
      rw [h6]
      rcases (show j % 3 = 0 ∨ j % 3 = 1 ∨ j % 3 = 2 by omega) with e | e | e <;> rw [e] <;> rfl)
    have HONE : Hid (∀ u ∈ (clP l vl vk).flatMap cells3, u.oneCell' = true) := Lib.hid (fun u hu => by
      obtain ⟨qq, hq, hu⟩ := List.mem_flatMap.1 hu
      unfold clP at hq
      obtain ⟨i, hi, rfl⟩ := List.mem_map.1 hq
      have hs := h4 i (List.mem_range.1 hi)
      obtain ⟨x1, y1, e1, -⟩ := hs.lits.form
      obtain ⟨x2, y2, e2, -⟩ := hs.coefs.form
      simp only [cells3, e1, e2, List.mem_cons, List.not_mem_nil, or_false] at hu
      rcases hu with rfl | rfl | rfl <;> rfl)
    have HEA : Hid (∀ W, ∀ qq ∈ clP l vl vk, PBX w0 W qq) := Lib.hid (fun W qq hq => by
      unfold clP at hq
      obtain ⟨i, hi, rfl⟩ := List.mem_map.1 hq
      have hs := h4 i (List.mem_range.1 hi)
      exact ⟨.old hs.lits, .old hs.coefs, hs.bound⟩)
    have HFL := Lib.hid hfl
    clear h3 h4 hfl
    go_enter Tryz.func35, Tryz.ntmps35
    go_wp2_with (at_builtin; refine wpList_append_own _ rfl _ _ 22 rfl w.heap.size 25 i0 (.agg #[.slice none 0 0, .slice none 0 0, .int .i64 0]) 3 56 Tryz.underlying22 hi hz0 hz1 hz2 rfl (by decide) _ _ _ rfl (World.ownsRow_made w #[] 0 (Nat.le_refl _) (Nat.zero_le _) rfl) ad l.length cap ((clP l vl vk).flatMap cells3) rfl ?qc1 ?qc2 ?qc3 ?qc4 ?qc5 ?qc6 ?_)
    case qc1 => exact HFL.out
    case qc2 =>
      intro j u hj
      exact Lib.cell?_alloc_some _ (hcell.out j u hj)
    case qc3 => exact HONE.out
    case qc4 => unfold maxLen at *; omega
    case qc5 => omega
    case qc6 => simp
    intro v' w1 hown hgrow hnil
    go_wp2
    go_ret
    have hrow : RowP w0 v' (clP l vl vk) w1 := ⟨ownsRow_mono (base := w.heap.size) (by rw [clP_len]; simpa using hown) HSZ.out, HEA.out w1⟩
    obtain ⟨a9, c9, rfl⟩ := hrow.slen
    rw [clP_len] at hrow ⊢
    exact ⟨a9, c9, _, rfl, hrow, clP_fst _ _ _, (bal (Below.refl _ w) _).grown hgrow (by simp) (by intro k hk; simp [Value.ownBlock] at hk; omega)⟩
attribute [local go_sem] memUpon
def rpΦ (w0 : World) (db : List PBC) (al ak : Option Addr) (nl cl nk ck : Nat) (bd : Int) (i : Nat) (_ : List Value) (v : Value) (lo hi : Nat) (w : World) : Prop :=
  (i = 1 ∧ ∃ a c L, v = .slice a db.length c ∧ RowP w0 (.slice a db.length c) L w ∧ L.map (·.1) = db) ∨
  (i = 3 ∧ v = .slice (some ⟨lo, 0, none⟩) 1 1 ∧ lo < hi ∧ Blk w lo [.slice al nl cl, .slice ak nk ck, .int .i64 bd] 25)
theorem rpΦ_later (w0 : World) (db : List PBC) (al ak : Option Addr) (nl cl nk ck : Nat) (bd : Int) : ∀ i args v lo hi w w', rpΦ w0 db al ak nl cl nk ck bd i args v lo hi w → Below w.heap.size w w' → rpΦ w0 db al ak nl cl nk ck bd i args v lo hi w' := fun _ _ _ _ _ _ _ h hb => by
  rcases h with ⟨e, a, c, L, h1, h2, h3⟩ | ⟨e, h1, h2, h3⟩
  · exact .inl ⟨e, a, c, L, h1, h2.below hb, h3⟩
  · exact .inr ⟨e, h1, h2, h3.below hb⟩
theorem runFails (args : Array Value) (w : World) : (callFunc 34 args).run Tryz.prog w = .ok (.enter 34 args) w := by kernel_rfl
theorem ctnP_call {v : Value} {db : List PBC} {b : Bool} {w : World} (hb : anyR db.length (fun i => !pbV (ixC db i)) = b) (h : PBsIs w v db) :
    Calls Tryz.prog 32 #[v, .func (.func 33) #[] #[]] w fun e w' => e = .returned (.bool b) ∧ Below w.heap.size w w' := by
  have := ctnP_nval v db w h (fun i => !pbV (ixC db i)) (fun w' hb j hj u hu => nvalid_any u _ w' hu)
  rwa [hb] at this
theorem vneg_call {v : Value} {c n : PBC} {E : Int} {w : World} (hn : negP c = (n, E)) (h : PBIs w v c) :
    Calls Tryz.prog 31 #[v] w fun e w' => ∃ a1 c1 a2 c2, e = .returned (.tuple #[.agg #[.slice a1 n.lits.length c1, .slice a2 n.coefs.length c2, .int .i64 n.bound], .int .i64 E]) ∧ PBIs w' (.agg #[.slice a1 n.lits.length c1, .slice a2 n.coefs.length c2, .int .i64 n.bound]) n ∧
      QRow w.heap.size w' (.slice a1 n.lits.length c1) n.lits ∧ QRow w.heap.size w' (.slice a2 n.coefs.length c2) n.coefs ∧ n.lits.length ≤ 65536 ∧ n.coefs.length ≤ 65536 ∧ InI n.bound ∧ Below w.heap.size w w' := by
  refine (negate_any v c w h).mono ?_
  rintro e w' ⟨vp, rfl, hq, hb⟩
  rw [hn] at hq ⊢
  have hi := hq.is
  obtain ⟨vl, vk, rfl, h1, h2, h3, h4, h5⟩ := hq
  obtain ⟨a1, c1, rfl⟩ := h1.slen
  obtain ⟨a2, c2, rfl⟩ := h2.slen
  exact ⟨a1, c1, a2, c2, rfl, hi, h1, h2, h4, h5, h3, hb⟩
theorem anyR_ex36 {n : Nat} {f : Nat → Bool} (h : anyR n f = true) : ∃ j, j < n ∧ f j = true := by
  apply Classical.byContradiction
  intro hn
  rw [anyR_false fun j hj => ?_] at h
  · cases h
  · cases e : f j with
    | false => rfl
    | true => exact absurd ⟨j, hj, e⟩ hn
theorem all_anyR {db : List PBC} : db.all pbV = !anyR db.length (fun i => !pbV (ixC db i)) := by
  cases h : anyR db.length (fun i => !pbV (ixC db i)) with
  | true =>
    obtain ⟨i, hi, e⟩ := anyR_ex36 h
    rw [Bool.not_true, ← Bool.not_eq_true, List.all_eq_true]
    intro ha
    rw [ha _ (ixC_mem hi)] at e
    cases e
  | false =>
    rw [Bool.not_false, List.all_eq_true]
    intro c hc
    obtain ⟨j, hj, rfl⟩ := mem_ixC hc
    cases e : pbV (ixC db j) with
    | true => rfl
    | false => exact absurd (anyR_true (f := fun i => !pbV (ixC db i)) j hj (by rw [e]; rfl)) (by rw [h]; exact Bool.false_ne_true)
set_option maxHeartbeats 8000000 in
set_option maxRecDepth 100000 in
theorem vrup_any (v vc : Value) (db : List PBC) (c : PBC) (w : World) (h : PBsIs w v db) (hc : PBIs w vc c) (hl : db.length ≤ 800000) :
    Calls Tryz.prog 13 #[v, vc] w fun e w' => e = .returned (.bool (rupB db c)) ∧ Below w.heap.size w w' := by
  have h0 := h
  have hc0 := hc
  obtain ⟨a1, c1, rfl, -⟩ := h.form
  obtain ⟨vl, vk, rfl, hL, hK, hbd⟩ := hc
  obtain ⟨a2, c2, rfl, -⟩ := id hL.form
  obtain ⟨a3, c3, rfl, -⟩ := id hK.form
  have hal := bal (Below.refl w.heap.size w) (.cells #[.slice a2 c.lits.length c2, .slice a3 c.coefs.length c3, .int .i64 c.bound] 25)
  have HC := Lib.hid (hc0.below hal)
  have HP := Lib.hid (h0.below hal)
  have HB0 := Lib.hid hal
  have kx := (Blk.new w [.slice a2 c.lits.length c2, .slice a3 c.coefs.length c3, .int .i64 c.bound] 25).cell
  obtain ⟨⟨n, E⟩, hn⟩ : ∃ N, negP c = N := ⟨_, rfl⟩
  have HN := Lib.hid hn
  clear h h0 hc0 hL hK hbd hal hn
  go_enter Tryz.func13, Tryz.ntmps13
  go_upto_region 1 with fail
  generalize w.alloc (.cells #[.slice a2 c.lits.length c2, .slice a3 c.coefs.length c3, .int .i64 c.bound] 25) = W0 at *
  go_upto_region 2 with (go_at_call 31; (with_reducible refine (vneg_call HN.out HC.out).mono ?_); rintro e w1 ⟨a4, c4, a5, c5, rfl, hi, hq1, hq2, hq3, hq4, hq5, hb1⟩; have hal1 := bal (Below.refl w1.heap.size w1) (.cells #[.slice a4 n.lits.length c4, .slice a5 n.coefs.length c5, .int .i64 n.bound] 25); have hb2 := bon hb1 hal1; have HB1 := Lib.hid (bon HB0.out hb2); have HP1 := Lib.hid (HP.out.below hb2); have HI1 := Lib.hid (hi.below hal1); have HQ1 := Lib.hid (hq1.below hal1); have HQ2 := Lib.hid (hq2.below hal1); have HQ3 := Lib.hid (And.intro hq3 (And.intro hq4 hq5)); have HX := Lib.hid (Blk.new w1 [.slice a4 n.lits.length c4, .slice a5 n.coefs.length c5, .int .i64 n.bound] 25); have HZ : Hid (w.heap.size ≤ W0.heap.size) := Lib.hid HB0.out.size; clear hi hq1 hq2 hq3 hq4 hq5 hb1 hal1 hb2)
  generalize hw2 : w1.alloc (.cells #[.slice a4 n.lits.length c4, .slice a5 n.coefs.length c5, .int .i64 n.bound] 25) = w2 at *
  clear hw2 kx
  generalize w1.heap.size = xb at *
  have kx := HX.out.cell
  by_cases hE : E = 0
  case neg =>
    have hen : (E != 0) = true := by simp [hE]
    have HF : Hid (rupB db c = false) := Lib.hid (by
      cases e : rupB db c with
      | false => rfl
      | true => obtain ⟨-, h2, -⟩ := rupB_iff.1 e; rw [HN.out] at h2; exact absurd h2 hE)
    clear hE
    go_wp2_with fail
    go_ret
    exact ⟨ret_bool HF.out.symm, HB1.out⟩
  subst hE
  cases hv : anyR db.length (fun i => !pbV (ixC db i)) with
  | true =>
    have HV := Lib.hid hv
    have HF : Hid (rupB db c = false) := Lib.hid (by unfold rupB; rw [all_anyR, hv]; rfl)
    clear hv
    go_wp2_with (go_at_call 32; (with_reducible refine (ctnP_call HV.out HP1.out).mono ?_); rintro e w3 ⟨rfl, hb3⟩; have HB3 := Lib.hid (bon HB1.out hb3); clear hb3)
    go_ret
    exact ⟨ret_bool HF.out.symm, HB3.out⟩
  | false =>
    have HV := Lib.hid hv
    have HALL : Hid (∀ d ∈ db ++ [n], pbV d = true) := Lib.hid (by
      intro d hd
      rcases List.mem_append.1 hd with hd | hd
      · have h2 : db.all pbV = true := by rw [all_anyR, hv]; rfl
        exact List.all_eq_true.1 h2 d hd
      · rw [List.mem_singleton.1 hd]
        have h3 : (negP c).2 = 0 := by rw [HN.out]
        have := neg_valid h3
        rwa [HN.out] at this)
    have HF : Hid (failB (db ++ [n]) = rupB db c) := Lib.hid (by unfold rupB; rw [all_anyR, hv, HN.out]; simp)
    clear hv
    go_upto_region 4 with (go_at_call 32; (with_reducible refine (ctnP_call HV.out HP1.out).mono ?_); rintro e w3 ⟨rfl, hb3⟩; have HB3 := Lib.hid (bon HB1.out hb3); have HP3 := Lib.hid (HP1.out.below hb3); have HX3 := Lib.hid (HX.out.below hb3); have HQ13 := Lib.hid (HQ1.out.below hb3); have HQ23 := Lib.hid (HQ2.out.below hb3); clear hb3)
    have kx3 := HX3.out.cell
    have zx3 := HX3.out.lt
    have ex : ∀ e : Ext w3, ∀ o, e.world.cell? ⟨xb, o, none⟩ = _ := fun e o => (bcell e.below _ o zx3).trans (HX3.out.cell o)
    clear kx
    refine wp_region_tailC [0, 1, 2, 3, 4, 5, 6] 4 (fun _ => True) (rpΦ w3 db a4 a5 n.lits.length c4 n.coefs.length c5 n.bound) (fun i => i == 1 || i == 3) (by kernel_rfl) (by kernel_rfl) (by kernel_rfl) (by kernel_rfl) (fun _ _ => trivial) (rpΦ_later _ _ _ _ _ _ _ _ _) ?_
    simp only [reorder, List.map_cons, List.map_nil, List.getD_cons_zero, List.getD_cons_succ, reix, atIn, List.map_toArray, List.idxOf_cons, List.idxOf_nil, Nat.reduceBEq, cond_true, cond_false, beq_self_eq_true, Nat.reduceAdd, Option.map, List.take_succ_cons, List.take_zero, List.drop_succ_cons, List.drop_zero]
    iterate 1 (refine walkP_head (by kernel_rfl) rfl rfl rfl (fun K hK => ?_); go_big_quiet_op; refine hK _ ?_; clear hK K)
    refine walkP_mem rfl rfl (fun wa hba hFa => ?_) (fun v1 lo1 hi1 l1 g1 h1 => ?_)
    · go_simp
      exact (clonePB_any _ db w3 wa HP3.out hba (by omega)).mono fun e w5 ⟨a, c, L, h1, h2, h3, h4⟩ => ⟨_, h1, h4, .inl ⟨rfl, a, c, L, rfl, h2, h3⟩⟩
    obtain ⟨_, h1⟩ := h1
    obtain ⟨a6, c6, rfl⟩ : ∃ a c, v1 = .slice a db.length c := by
      rcases h1 with ⟨-, a, c, L, e, -⟩ | ⟨e, -⟩
      · exact ⟨a, c, e⟩
      · exact absurd e (by decide)
    simp only [Act.put, List.setIfInBounds_toArray, List.set_cons_succ, List.set_cons_zero]
    iterate 1 (refine walkP_head (by kernel_rfl) rfl rfl rfl (fun K hK => ?_); go_big_quiet_op; refine hK _ ?_; clear hK K)
    refine walkP_mem rfl rfl (fun wa hba hFa => ?_) (fun v3 lo3 hi3 l3 g3 h3 => ?_)
    · go_simp
      exact ⟨bal (Below.refl _ _) _, .inr ⟨rfl, rfl, by simp, Blk.new _ _ _⟩⟩
    obtain ⟨_, h3⟩ := h3
    obtain rfl : v3 = .slice (some ⟨lo3, 0, none⟩) 1 1 := by
      rcases h3 with ⟨e, -⟩ | ⟨-, e, -⟩
      · exact absurd e (by decide)
      · exact e
    simp only [Act.put, List.setIfInBounds_toArray, List.set_cons_succ, List.set_cons_zero]
    intro wx hbx hF hI hP
    have f3 : Blk wx lo3 [.slice a4 n.lits.length c4, .slice a5 n.coefs.length c5, .int .i64 n.bound] 25 := by
      rcases hF _ (.head _) with ⟨e, -⟩ | ⟨-, -, -, e⟩
      · exact absurd e (by decide)
      · exact e
    obtain ⟨L, f1, f2⟩ : ∃ L, RowP w3 (.slice a6 db.length c6) L wx ∧ L.map (·.1) = db := by
      rcases hF _ (.tail _ (.head _)) with ⟨-, a, c, L, e, h1, h2⟩ | ⟨e, -⟩
      · rw [e]; exact ⟨L, h1, h2⟩
      · exact absurd e (by decide)
    have HLL : Hid (L.length = db.length) := Lib.hid (by rw [← f2]; simp)
    have HF1 := Lib.hid f1
    have HF2 := Lib.hid f2
    have HF3 := Lib.hid f3
    have HBX := Lib.hid hbx
    clear hF hI hP f1 f2 f3 hbx h1 h3
    refine ⟨rfl, .inl rfl, ?_⟩
    refine wp_appendRP (.tmp 19) (.tmp 21) rfl w3 (.slice a6 db.length c6) L (n, .slice a4 n.lits.length c4, .slice a5 n.coefs.length c5) rfl HF1.out lo3 1 rfl HF3.out ⟨.old (HQ13.out.ints (by have := HQ3.out.1; omega)), .old (HQ23.out.ints (by have := HQ3.out.2.1; omega)), HQ3.out.2.2⟩ (by rw [HLL.out]; omega) HBX.out ?_
    intro g cap w7 hr7 hg7 hb7
    have HPB : Hid (PBsIs w7 (.slice (some ⟨g, 0, none⟩) (L.length + 1) cap) (db ++ [n])) := Lib.hid (hr7.pbs hb7 (by rw [List.map_append, HF2.out]; rfl) (by rw [List.length_append, HLL.out]; show db.length + 1 ≤ _; omega))
    have HB7 := Lib.hid (bon HB3.out hb7)
    clear hr7 hg7 hb7
    refine ⟨trivial, ?_⟩
    simp only [Act.put, List.setIfInBounds_toArray, List.set_cons_succ, List.set_cons_zero]
    refine tailC_call rfl (runFails _ w7) ?_
    simp only [List.map_toArray, List.map_cons, List.map_nil, Act.eval, Array.append_empty, List.append_toArray]
    refine (fails_any _ (db ++ [n]) _ HPB.out HALL.out).mono ?_
    rintro e w9 ⟨rfl, hb9⟩
    have HB9 := Lib.hid (bon HB7.out hb9)
    clear hb9
    rw [HF.out]
    refine ⟨_, rfl, trivial, ?_⟩
    refine ⟨rfl, .inl rfl, ?_⟩
    go_simp
    simp only [tailC]
    go_wp2_with fail
    go_ret
    exact ⟨rfl, HB9.out⟩
end Go.Proofs.YteblddnoegbalaaGreat
